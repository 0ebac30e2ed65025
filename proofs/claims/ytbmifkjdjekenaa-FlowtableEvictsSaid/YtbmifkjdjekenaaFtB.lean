/-
  What a table is, and what each call does to it: in plain words.
-/
import Derived.Test.YtbmifkjdjekenaaFtA
namespace Go.Proofs.Ytbmifkjdjekenaa
set_option linter.unusedSimpArgs false
set_option linter.unusedVariables false
set_option maxRecDepth 20000
open Go
theorem cmpA_anti (a b : Ad) : (0 < cmpA a b ↔ cmpA b a < 0) := by
  unfold cmpA ltA
  obtain ⟨av, ah, al⟩ := a
  obtain ⟨bv, bh, bl⟩ := b
  simp only [Ad.mk.injEq]
  by_cases h1 : av = bv
  · subst h1
    by_cases h2 : ah = bh
    · subst h2
      by_cases h3 : al = bl
      · subst h3; simp
      · have h3' : ¬ bl = al := fun h => h3 h.symm
        simp only [true_and, h3, h3', if_false, ne_eq, not_true_eq_false, decide_eq_true_eq]
        by_cases h4 : al < bl
        · have : ¬ bl < al := by omega
          simp [h4, this]
        · have : bl < al := by omega
          simp [h4, this]
    · have h2' : ¬ bh = ah := fun h => h2 h.symm
      simp only [true_and, h2, h2', false_and, if_false, ne_eq, not_true_eq_false, not_false_eq_true, if_true, decide_eq_true_eq]
      by_cases h4 : ah < bh
      · have : ¬ bh < ah := by omega
        simp [h4, this]
      · have : bh < ah := by omega
        simp [h4, this]
  · have h1' : ¬ bv = av := fun h => h1 h.symm
    simp only [h1, h1', false_and, if_false, ne_eq, not_false_eq_true, if_true]
    cases av <;> cases bv <;> simp_all
def Fl.rev (f : Fl) : Fl := ⟨f.proto, f.dst, f.src, f.dport, f.sport⟩
theorem swap_anti {a b : En} (h : swapL a b) : ¬ swapL b a := by
  unfold swapL at *
  have h1 := cmpA_anti a.addr b.addr
  have h2 := cmpA_anti b.addr a.addr
  have h3 : cmpA a.addr b.addr = 0 ↔ cmpA b.addr a.addr = 0 := by rw [cmpA_zero, cmpA_zero]; exact eq_comm
  omega
theorem swap_none {a b : En} (hp : a.proto = b.proto) (h1 : ¬ swapL a b) (h2 : ¬ swapL b a) : a = b := by
  unfold swapL at *
  have g1 := cmpA_anti a.addr b.addr
  have g2 := cmpA_anti b.addr a.addr
  have h3 : cmpA a.addr b.addr = 0 ↔ cmpA b.addr a.addr = 0 := by rw [cmpA_zero, cmpA_zero]; exact eq_comm
  have h4 : cmpA a.addr b.addr = 0 := by omega
  have h5 : a.port = b.port := by omega
  rw [cmpA_zero] at h4
  obtain ⟨ap, aa, ao⟩ := a
  obtain ⟨bp, ba, bo⟩ := b
  simp only at *
  subst hp h4 h5; rfl
def Fl.a (f : Fl) : En := ⟨f.proto, f.src, f.sport⟩
def Fl.b (f : Fl) : En := ⟨f.proto, f.dst, f.dport⟩
theorem pairL_eq (f : Fl) : pairL f = if swapL f.a f.b then (f.b, f.a) else (f.a, f.b) := rfl
theorem pair_rev (f : Fl) : pairL f.rev = pairL f := by
  rw [pairL_eq, pairL_eq]
  have e1 : f.rev.a = f.b := rfl
  have e2 : f.rev.b = f.a := rfl
  rw [e1, e2]
  by_cases h : swapL f.a f.b
  · rw [if_pos h, if_neg (swap_anti h)]
  · rw [if_neg h]
    by_cases h2 : swapL f.b f.a
    · rw [if_pos h2]
    · rw [if_neg h2, swap_none (a := f.a) (b := f.b) rfl h h2]
theorem pair_inj {f g : Fl} (h : pairL f = pairL g) : g = f ∨ g = f.rev := by
  rw [pairL_eq, pairL_eq] at h
  by_cases c1 : swapL f.a f.b <;> by_cases c2 : swapL g.a g.b <;> simp only [c1, c2, if_true, if_false] at h <;> clear c1 c2 <;> obtain ⟨p, s, d, x, y⟩ := f <;> obtain ⟨p', s', d', x', y'⟩ := g <;> simp only [Fl.a, Fl.b, Fl.rev] at * <;> simp only [Prod.mk.injEq, En.mk.injEq] at h <;> obtain ⟨⟨h1, h2, h3⟩, h4, h5, h6⟩ := h <;> subst h1 h2 h3 h5 h6 <;> simp
/-! ### What a table holds -/
structure FEn where
  id : Int
  value : Int
  last : Int
  f : Fl
deriving DecidableEq
structure St where
  most : Int
  timeout : Int
  time : Int
  used : Int
  L : List FEn
structure Wf (st : St) : Prop where
  most : 1 ≤ st.most ∧ st.most ≤ 64
  timeout : 1 ≤ st.timeout ∧ st.timeout ≤ 2 ^ 40
  time : 0 ≤ st.time ∧ st.time ≤ 2 ^ 40
  used : 0 ≤ st.used ∧ st.used ≤ 2 ^ 40
  asc : (st.L.map (·.id)).Pairwise (· < ·)
  ids : ∀ e ∈ st.L, 1 ≤ e.id ∧ e.id ≤ st.used
  pairs : (st.L.map fun e => pairL e.f).Nodup
  len : (st.L.length : Int) ≤ st.most
theorem Wf.nd {st : St} (w : Wf st) : (st.L.map (·.id)).Nodup := List.Pairwise.imp (fun h => by omega) w.asc
theorem Wf.len64 {st : St} (w : Wf st) : st.L.length ≤ 64 := by have := w.len; have := w.most; omega
def findS (L : List FEn) (f : Fl) : Int × Int × Bool := match L.find? (fun e => decide (e.f = f)) with
  | some e => (e.id, 1, true)
  | none => match L.find? (fun e => decide (e.f = f.rev)) with
    | some e => (e.id, 2, true)
    | none => (0, 0, false)
def lateB (st : St) (at_ : Int) : Bool := decide (at_ < st.time) || decide (at_ > 1099511627776)
def badB (f : Fl) (v : Int) : Bool := decide (v < 0 ∨ v > 3 ∨ f.proto < 0 ∨ f.proto > 255 ∨ f.sport < 0 ∨ f.sport > 65535 ∨ f.dport < 0 ∨ f.dport > 65535)
/-- Which of two goes first. -/
def befE (x y : FEn) : Bool := decide (x.value < y.value ∨ x.value = y.value ∧ (x.last < y.last ∨ x.last = y.last ∧ x.id < y.id))
def IsLeast (L : List FEn) (x : FEn) : Prop := x ∈ L ∧ ∀ y ∈ L, befE y x = false
def addE (st : St) (at_ v : Int) (f : Fl) (L : List FEn) : St := { st with time := at_, used := st.used + 1, L := L ++ [⟨st.used + 1, v, at_, f⟩] }
def without (L : List FEn) (id : Int) : List FEn := L.filter fun e => decide (e.id ≠ id)
/-- What Open answers, and what it leaves. -/
inductive OpenR (st : St) (at_ : Int) (f : Fl) (v : Int) : Int → Int → Int → St → Prop
  | late (h : lateB st at_ = true) : OpenR st at_ f v 0 0 12 st
  | bad (h1 : lateB st at_ = false) (h2 : badB f v = true) : OpenR st at_ f v 0 0 4 st
  | exists_ (h1 : lateB st at_ = false) (h2 : badB f v = false) (h3 : (findS st.L f).2.2 = true) : OpenR st at_ f v 0 0 7 st
  | full (x : FEn) (h1 : lateB st at_ = false) (h2 : badB f v = false) (h3 : (findS st.L f).2.2 = false) (h4 : (st.L.length : Int) ≥ st.most) (h5 : IsLeast st.L x) (h6 : x.value > v) : OpenR st at_ f v 0 0 11 st
  | evict (x : FEn) (h1 : lateB st at_ = false) (h2 : badB f v = false) (h3 : (findS st.L f).2.2 = false) (h4 : (st.L.length : Int) ≥ st.most) (h5 : IsLeast st.L x) (h6 : ¬ x.value > v) : OpenR st at_ f v (st.used + 1) x.id 0 (addE st at_ v f (without st.L x.id))
  | add (h1 : lateB st at_ = false) (h2 : badB f v = false) (h3 : (findS st.L f).2.2 = false) (h4 : ¬ (st.L.length : Int) ≥ st.most) : OpenR st at_ f v (st.used + 1) 0 0 (addE st at_ v f st.L)
theorem ent_inj {L : List FEn} (nd : (L.map (·.id)).Nodup) {c d : FEn} (hc : c ∈ L) (hd : d ∈ L) (h : c.id = d.id) : c = d := by
  obtain ⟨i, hi, rfl⟩ := List.getElem_of_mem hc
  obtain ⟨j, hj, rfl⟩ := List.getElem_of_mem hd
  have hij : i = j := (List.getElem_inj (h₀ := by simpa using hi) (h₁ := by simpa using hj) nd).1 (by simp only [List.getElem_map]; exact h)
  subst hij; rfl
theorem least_uniq {L : List FEn} (nd : (L.map (·.id)).Nodup) {x y : FEn} (hx : IsLeast L x) (hy : IsLeast L y) : x = y := by
  have h1 := hx.2 y hy.1
  have h2 := hy.2 x hx.1
  unfold befE at h1 h2
  rw [decide_eq_false_iff_not] at h1 h2
  exact ent_inj nd hx.1 hy.1 (by omega)
theorem OpenR.uniq {st : St} (w : Wf st) {at_ : Int} {f : Fl} {v a b c a' b' c' : Int} {s s' : St} (h : OpenR st at_ f v a b c s) (h' : OpenR st at_ f v a' b' c' s') : a = a' ∧ b = b' ∧ c = c' ∧ s = s' := by
  cases h <;> cases h' <;> first | exact ⟨rfl, rfl, rfl, rfl⟩ | (simp_all; done) | skip
  all_goals rename_i x _ _ _ _ hx _ y _ _ _ _ hy _
  all_goals obtain rfl := least_uniq w.nd hx hy
  all_goals first | exact ⟨rfl, rfl, rfl, rfl⟩ | (exfalso; omega)
theorem pair_of {L : List FEn} (nd : (L.map fun e => pairL e.f).Nodup) {c d : FEn} (hc : c ∈ L) (hd : d ∈ L) (h : pairL c.f = pairL d.f) : c = d := by
  obtain ⟨i, hi, rfl⟩ := List.getElem_of_mem hc
  obtain ⟨j, hj, rfl⟩ := List.getElem_of_mem hd
  have hij : i = j := (List.getElem_inj (h₀ := by simpa using hi) (h₁ := by simpa using hj) nd).1 (by simp only [List.getElem_map]; exact h)
  subst hij; rfl
theorem find_none {L : List FEn} {f : Fl} (h : ∀ e ∈ L, pairL e.f ≠ pairL f) : findS L f = (0, 0, false) := by
  unfold findS
  have h1 : L.find? (fun e => decide (e.f = f)) = none := by
    rw [List.find?_eq_none]; intro e he hf
    exact h e he (by rw [of_decide_eq_true hf])
  have h2 : L.find? (fun e => decide (e.f = f.rev)) = none := by
    rw [List.find?_eq_none]; intro e he hf
    exact h e he (by rw [of_decide_eq_true hf, pair_rev])
  rw [h1, h2]
theorem find_one {L : List FEn} (nd : (L.map fun e => pairL e.f).Nodup) {f : Fl} {e : FEn} (he : e ∈ L) (hp : pairL e.f = pairL f) : findS L f = (e.id, if e.f = f then 1 else 2, true) := by
  unfold findS
  by_cases hf : e.f = f
  · cases h1 : L.find? (fun e => decide (e.f = f)) with
    | none => rw [List.find?_eq_none] at h1; exact absurd (decide_eq_true hf) (h1 e he)
    | some d =>
      have hd := List.mem_of_find?_eq_some h1
      have hdf : d.f = f := by have := List.find?_some h1; exact of_decide_eq_true this
      obtain rfl := pair_of nd hd he (by rw [hdf, hf])
      rw [if_pos hf]
  · have h1 : L.find? (fun e => decide (e.f = f)) = none := by
      rw [List.find?_eq_none]; intro d hd hdf
      have hdf := of_decide_eq_true hdf
      obtain rfl := pair_of nd hd he (by rw [hdf, hp])
      exact hf hdf
    rw [h1]
    have hr : e.f = f.rev := by
      rcases pair_inj hp.symm with h | h
      · exact absurd h hf
      · exact h
    cases h2 : L.find? (fun e => decide (e.f = f.rev)) with
    | none => rw [List.find?_eq_none] at h2; exact absurd (decide_eq_true hr) (h2 e he)
    | some d =>
      have hd := List.mem_of_find?_eq_some h2
      have hdf : d.f = f.rev := by have := List.find?_some h2; exact of_decide_eq_true this
      obtain rfl := pair_of nd hd he (by rw [hdf, hr])
      rw [if_neg hf]
theorem find_yes {L : List FEn} {f : Fl} (h : (findS L f).2.2 = false) : ∀ e ∈ L, pairL e.f ≠ pairL f := by
  intro e he hp
  unfold findS at h
  rcases pair_inj hp.symm with hf | hf
  · cases h1 : L.find? (fun e => decide (e.f = f)) with
    | none => rw [List.find?_eq_none] at h1; exact absurd (decide_eq_true hf) (h1 e he)
    | some d => rw [h1] at h; cases h
  · cases h1 : L.find? (fun e => decide (e.f = f)) with
    | some d => rw [h1] at h; cases h
    | none =>
      rw [h1] at h
      cases h2 : L.find? (fun e => decide (e.f = f.rev)) with
      | none => rw [List.find?_eq_none] at h2; exact absurd (decide_eq_true hf) (h2 e he)
      | some d => rw [h2] at h; cases h
/-! ### Tables stay in form -/
theorem without_sub (L : List FEn) (id : Int) : (without L id).Sublist L := List.filter_sublist
theorem without_len {L : List FEn} {x : FEn} (hx : x ∈ L) : (without L x.id).length < L.length := by
  unfold without
  rw [List.length_filter_lt_length_iff_exists]
  exact ⟨x, hx, by simp⟩
theorem wf_add {st : St} (w : Wf st) {at_ v : Int} {f : Fl} (h1 : lateB st at_ = false) (h3 : (findS st.L f).2.2 = false) (hu : st.used + 1 ≤ 2 ^ 40) {M : List FEn} (hM : M.Sublist st.L) (hl : (M.length : Int) < st.most) : Wf (addE st at_ v f M) := by
  unfold lateB at h1
  simp only [Bool.or_eq_false_iff, decide_eq_false_iff_not] at h1
  have hs : ∀ e ∈ M, e ∈ st.L := fun e he => hM.subset he
  have hu0 := w.used
  have ht := w.time
  refine ⟨w.most, w.timeout, ⟨by show 0 ≤ at_; omega, by show at_ ≤ _; omega⟩, ⟨by show 0 ≤ st.used + 1; omega, hu⟩, ?_, ?_, ?_, ?_⟩
  · show ((M ++ [_]).map _).Pairwise _
    rw [List.map_append, List.pairwise_append]
    refine ⟨w.asc.sublist (hM.map _), by simp, fun a ha b hb => ?_⟩
    obtain ⟨e, he, rfl⟩ := List.mem_map.1 ha
    simp at hb; subst hb
    have := (w.ids e (hs e he)).2; omega
  · intro e he
    rcases List.mem_append.1 he with he | he
    · have := w.ids e (hs e he); exact ⟨this.1, by show e.id ≤ st.used + 1; omega⟩
    · rw [List.mem_singleton.1 he]; exact ⟨by show 1 ≤ st.used + 1; omega, by show st.used + 1 ≤ st.used + 1; omega⟩
  · show ((M ++ [_]).map _).Nodup
    rw [List.map_append, List.nodup_append]
    refine ⟨w.pairs.sublist (hM.map _), by simp, fun a ha b hb => ?_⟩
    obtain ⟨e, he, rfl⟩ := List.mem_map.1 ha
    simp at hb; subst hb
    exact find_yes h3 e (hs e he)
  · show ((M ++ [_]).length : Int) ≤ st.most
    rw [List.length_append]; simp only [List.length_singleton]; omega
theorem OpenR.wf {st s : St} (w : Wf st) {at_ : Int} {f : Fl} {v a b c : Int} (h : OpenR st at_ f v a b c s) (hu : st.used + 1 ≤ 2 ^ 40) : Wf s := by
  cases h with
  | late | bad | exists_ | full => exact w
  | evict x h1 h2 h3 h4 h5 h6 => exact wf_add w h1 h3 hu (without_sub _ _) (by have := without_len h5.1; have := w.len; omega)
  | add h1 h2 h3 h4 => exact wf_add w h1 h3 hu (List.Sublist.refl _) (by omega)
def touchL (L : List FEn) (id at_ : Int) : List FEn := L.map fun e => if e.id = id then { e with last := at_ } else e
def hasId (L : List FEn) (id : Int) : Bool := L.any fun e => decide (e.id = id)
def touchS (st : St) (at_ id : Int) : Int × St := if lateB st at_ then (12, st) else if hasId st.L id then (0, { st with time := at_, L := touchL st.L id at_ }) else (6, st)
def removeS (st : St) (id : Int) : Int × St := if hasId st.L id then (0, { st with L := without st.L id }) else (6, st)
def oldB (st : St) (at_ : Int) (e : FEn) : Bool := decide (e.last ≤ at_ - st.timeout)
def expireS (st : St) (at_ : Int) : List Int × St := if lateB st at_ then ([], st) else ((st.L.filter (oldB st at_)).map (·.id), { st with time := at_, L := st.L.filter fun e => !oldB st at_ e })
def zeroF : Fl := ⟨0, noA, noA, 0, 0⟩
def keyS (L : List FEn) (id : Int) : Fl × Bool := match L.find? (fun e => decide (e.id = id)) with
  | some e => (e.f, true)
  | none => (zeroF, false)
theorem wf_sub {st : St} (w : Wf st) {t : Int} (ht : 0 ≤ t ∧ t ≤ 2 ^ 40) {M : List FEn} (hM : M.Sublist st.L) : Wf { st with time := t, L := M } :=
  ⟨w.most, w.timeout, ht, w.used, w.asc.sublist (hM.map _), fun e he => w.ids e (hM.subset he), w.pairs.sublist (hM.map _), by have := w.len; have := hM.length_le; show (M.length : Int) ≤ st.most; omega⟩
theorem lateB_time {st : St} (w : Wf st) {at_ : Int} (h : lateB st at_ = false) : 0 ≤ at_ ∧ at_ ≤ 2 ^ 40 := by
  unfold lateB at h
  simp only [Bool.or_eq_false_iff, decide_eq_false_iff_not] at h
  have := w.time
  omega
theorem touch_wf {st : St} (w : Wf st) (at_ id : Int) : Wf (touchS st at_ id).2 := by
  unfold touchS
  split
  · exact w
  rename_i hl
  have ht := lateB_time w (by simpa using hl)
  split
  · have e1 : (touchL st.L id at_).map (·.id) = st.L.map (·.id) := by
      unfold touchL; rw [List.map_map]; apply List.map_congr_left; intro e _; simp only [Function.comp]; split <;> rfl
    have e2 : (touchL st.L id at_).map (fun e => pairL e.f) = st.L.map (fun e => pairL e.f) := by
      unfold touchL; rw [List.map_map]; apply List.map_congr_left; intro e _; simp only [Function.comp]; split <;> rfl
    refine ⟨w.most, w.timeout, ht, w.used, by show ((touchL st.L id at_).map _).Pairwise _; rw [e1]; exact w.asc, ?_, by show ((touchL st.L id at_).map _).Nodup; rw [e2]; exact w.pairs, by show ((touchL st.L id at_).length : Int) ≤ _; unfold touchL; rw [List.length_map]; exact w.len⟩
    intro e he
    obtain ⟨d, hd, rfl⟩ := List.mem_map.1 he
    have := w.ids d hd
    split <;> exact this
  · exact w
theorem remove_wf {st : St} (w : Wf st) (id : Int) : Wf (removeS st id).2 := by
  unfold removeS
  split
  · exact wf_sub w w.time (without_sub _ _)
  · exact w
theorem expire_wf {st : St} (w : Wf st) (at_ : Int) : Wf (expireS st at_).2 := by
  unfold expireS
  split
  · exact w
  rename_i hl
  exact wf_sub w (lateB_time w (by simpa using hl)) List.filter_sublist
end Go.Proofs.Ytbmifkjdjekenaa
