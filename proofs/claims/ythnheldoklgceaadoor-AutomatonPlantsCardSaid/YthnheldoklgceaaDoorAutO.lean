/-
  Links: one state's turn (plain).
-/
import Derived.Test.YthnheldoklgceaaDoorAutM
namespace Go.Proofs.YthnheldoklgceaaDoor
set_option linter.unusedSimpArgs false
set_option linter.unusedVariables false
set_option maxRecDepth 20000
open Go
def gt (sg : List St) (i : Nat) : St := sg.getD i st00
theorem gt_eq {sg : List St} {i : Nat} (hi : i < sg.length) : sg[i] = gt sg i := by
  unfold gt; rw [List.getD_eq_getElem?_getD, List.getElem?_eq_getElem hi]; rfl
theorem gt_set {sg : List St} {i : Nat} (hi : i < sg.length) (x : St) (j : Nat) : gt (sg.set i x) j = if i = j then x else gt sg j := by
  unfold gt
  rw [List.getD_eq_getElem?_getD, List.getD_eq_getElem?_getD, List.getElem?_set]
  by_cases h : i = j
  · subst h; rw [if_pos rfl, if_pos rfl, if_pos hi]; rfl
  · rw [if_neg h, if_neg h]
/-- The states of a state's children, in order. -/
def kids (f : Nat → Nat) (n : Nat) : List Nat := ((List.range n).filter fun d => decide (f d ≠ 0)).map f
theorem kids_succ (f : Nat → Nat) (n : Nat) : kids f (n + 1) = if f n = 0 then kids f n else kids f n ++ [f n] := by
  unfold kids
  rw [List.range_succ, List.filter_append, List.filter_cons, List.filter_nil]
  by_cases h : f n = 0
  · rw [if_pos h, if_neg (by simp [h]), List.append_nil]
  · rw [if_neg h, if_pos (by simp [h]), List.map_append]; rfl
theorem mem_kids {f : Nat → Nat} {n i : Nat} : i ∈ kids f n ↔ ∃ d, d < n ∧ f d ≠ 0 ∧ f d = i := by
  unfold kids
  rw [List.mem_map]
  constructor
  · rintro ⟨d, h1, h2⟩
    rw [List.mem_filter, List.mem_range] at h1
    exact ⟨d, h1.1, of_decide_eq_true h1.2, h2⟩
  · rintro ⟨d, h1, h2, h3⟩
    exact ⟨d, List.mem_filter.2 ⟨List.mem_range.2 h1, decide_eq_true h2⟩, h3⟩
/-- The inner loop, before letter c. -/
structure Inn (s0 sg : List St) (now : Nat) (f0 bk : Nat → Nat) (o' c : Nat) : Prop where
  len : sg.length = s0.length
  en : ∀ i, (gt sg i).en = (gt s0 i).en
  ou : ∀ i, (gt sg i).ou = if i = now then o' else (gt s0 i).ou
  nx : ∀ i d, d < 256 → (gt sg i).nx d = if i = now then (if d < c ∧ f0 d = 0 then bk d else f0 d) else (gt s0 i).nx d
  fa1 : ∀ d, d < c → f0 d ≠ 0 → (gt sg (f0 d)).fa = bk d
  fa0 : ∀ i, (∀ d, d < c → f0 d ≠ 0 → f0 d ≠ i) → (gt sg i).fa = (gt s0 i).fa
section
variable {s0 sg : List St} {now : Nat} {f0 bk : Nat → Nat} {o' c : Nat}
theorem Inn.no (I : Inn s0 sg now f0 bk o' c) (hc : c < 256) (hn : now < sg.length) (h0 : f0 c = 0) : Inn s0 (sg.set now { gt sg now with nx := putN (gt sg now).nx c (bk c) }) now f0 bk o' (c + 1) := by
  refine ⟨by rw [List.length_set]; exact I.len, fun i => ?_, fun i => ?_, fun i d hd => ?_, fun d hd hf => ?_, fun i hi => ?_⟩
  · rw [gt_set hn]; split
    · rename_i h; subst h; exact I.en now
    · exact I.en i
  · rw [gt_set hn]; split
    · rename_i h; subst h; exact I.ou now
    · exact I.ou i
  · rw [gt_set hn]
    by_cases h : now = i
    · subst h
      rw [if_pos rfl, if_pos rfl]
      show (if d = c then bk c else _) = _
      by_cases hdc : d = c
      · subst hdc
        rw [if_pos rfl, if_pos ⟨by omega, h0⟩]
      · rw [if_neg hdc, I.nx now d hd, if_pos rfl]
        by_cases h1 : d < c ∧ f0 d = 0
        · rw [if_pos h1, if_pos ⟨by omega, h1.2⟩]
        · rw [if_neg h1, if_neg (fun hh => h1 ⟨by omega, hh.2⟩)]
    · rw [if_neg h, I.nx i d hd, if_neg (fun hh => h hh.symm), if_neg (fun hh => h hh.symm)]
  · have hd2 : d < c := by
      by_cases h : d = c
      · subst h; exact absurd h0 hf
      · omega
    rw [gt_set hn]; split
    · rename_i h
      show (gt sg now).fa = _
      have := I.fa1 d hd2 hf
      rw [← h] at this; exact this
    · exact I.fa1 d hd2 hf
  · have := I.fa0 i fun d hd => hi d (by omega)
    rw [gt_set hn]; split
    · rename_i h; subst h; exact this
    · exact this
theorem Inn.yes (I : Inn s0 sg now f0 bk o' c) (hc : c < 256) (hn : f0 c < sg.length) (h0 : f0 c ≠ 0) (hu : ∀ d, d < c → f0 d ≠ 0 → f0 d ≠ f0 c) : Inn s0 (sg.set (f0 c) { gt sg (f0 c) with fa := bk c }) now f0 bk o' (c + 1) := by
  refine ⟨by rw [List.length_set]; exact I.len, fun i => ?_, fun i => ?_, fun i d hd => ?_, fun d hd hf => ?_, fun i hi => ?_⟩
  · rw [gt_set hn]; split
    · rename_i h; subst h; exact I.en _
    · exact I.en i
  · rw [gt_set hn]; split
    · rename_i h; rw [← h]; exact I.ou _
    · exact I.ou i
  · have e : (gt (sg.set (f0 c) { gt sg (f0 c) with fa := bk c }) i).nx d = (gt sg i).nx d := by
      rw [gt_set hn]; split
      · rename_i h; rw [← h]
      · rfl
    rw [e, I.nx i d hd]
    by_cases h : i = now
    · rw [if_pos h, if_pos h]
      by_cases h1 : d < c ∧ f0 d = 0
      · rw [if_pos h1, if_pos ⟨by omega, h1.2⟩]
      · rw [if_neg h1, if_neg (fun hh => h1 ⟨by
          by_cases hdc : d = c
          · subst hdc; exact absurd hh.2 h0
          · omega, hh.2⟩)]
    · rw [if_neg h, if_neg h]
  · by_cases hdc : d = c
    · subst hdc; rw [gt_set hn, if_pos rfl]
    · rw [gt_set hn, if_neg (hu d (by omega) hf).symm]
      exact I.fa1 d (by omega) hf
  · rw [gt_set hn, if_neg (hi c (by omega) h0)]
    exact I.fa0 i fun d hd => hi d (by omega)
end
/-- The links under way, with what comes before what. -/
structure Lq (sg : List St) (ws : List Nm) (E : Nm → List Nat) (D : Nat → Prop) (Qs : List Nat) : Prop extends Lk sg ws E D Qs where
  up : ∀ i j w c, ws[i]? = some (w ++ [c]) → ws[j]? = some w → D i ∨ i ∈ Qs → D j
theorem u8of {d : Nat} (hd : d < 256) : ∃ c : UInt8, c.toNat = d := ⟨UInt8.ofNat d, by rw [UInt8.toNat_ofNat']; omega⟩
section
variable {sg : List St} {ws : List Nm} {E : Nm → List Nat} {D : Nat → Prop} {now : Nat} {q : List Nat}
theorem Lk.lt {Qs : List Nat} (L : Lk sg ws E D Qs) {i : Nat} {w : Nm} (h : ws[i]? = some w) : i < sg.length := by
  rw [L.len]; exact (List.getElem?_eq_some_iff.1 h).1
theorem Lk.word {Qs : List Nat} (L : Lk sg ws E D Qs) {i : Nat} (h : i < sg.length) : ∃ w, ws[i]? = some w :=
  ⟨_, List.getElem?_eq_getElem (by rw [← L.len]; exact h)⟩
theorem Lq.pop {s0 : List St} (L : Lq s0 ws E D (now :: q)) {w : Nm} (hw : ws[now]? = some w) {o' : Nat} (ho : ws[o']? = some (outW ws E w)) (I : Inn s0 sg now (gt s0 now).nx (gt s0 (gt s0 now).fa).nx o' 256) :
    Lq sg ws E (fun i => D i ∨ i = now) (q ++ kids (gt s0 now).nx 256) := by
  have P := L.words
  have hap := L.apart now List.mem_cons_self
  have hnow := hap.2
  have hb := L.back hw hnow
  rw [gt_eq hnow] at hb
  generalize hbe : (gt s0 now).fa = b at *
  have hbl := L.lt hb.1
  have hne : w ≠ [] := fun h => by
    subst h
    have := idx_uniq L.nd hw L.z
    subst this; exact hap.1 L.root
  generalize hf0 : (gt s0 now).nx = f0 at *
  -- the children
  have kyes : ∀ c : UInt8, f0 c.toNat ≠ 0 → ws[f0 c.toNat]? = some (w ++ [c]) := fun c hc => by
    have := L.yes now hnow w c hw hap.1 (by rw [gt_eq hnow, hf0]; exact hc)
    rw [gt_eq hnow, hf0] at this; exact this
  have kno : ∀ c : UInt8, f0 c.toNat = 0 → w ++ [c] ∉ ws := fun c hc => L.no now hnow w c hw hap.1 (by rw [gt_eq hnow, hf0]; exact hc)
  have kid : ∀ i, i ∈ kids f0 256 → ∃ c : UInt8, f0 c.toNat = i ∧ ws[i]? = some (w ++ [c]) := fun i hi => by
    obtain ⟨d, h1, h2, h3⟩ := mem_kids.1 hi
    obtain ⟨c, rfl⟩ := u8of h1
    subst h3
    exact ⟨c, rfl, kyes c h2⟩
  have kapart : ∀ i, i ∈ kids f0 256 → ¬ D i ∧ i ∉ now :: q := fun i hi => by
    obtain ⟨c, _, h2⟩ := kid i hi
    exact ⟨fun h => hap.1 (L.up i now w c h2 hw (.inl h)), fun h => hap.1 (L.up i now w c h2 hw (.inr h))⟩
  have bk : ∀ c : UInt8, ws[(gt s0 b).nx c.toNat]? = some (ls ws (fl ws w ++ [c])) := fun c => by
    have := L.dn b hbl _ c hb.1 hb.2
    rw [gt_eq hbl] at this; exact this
  have hqn := L.qnd
  rw [List.nodup_cons] at hqn
  have len := I.len
  have hshort : ∀ j v, ws[j]? = some v → v.length ≤ w.length → (D j ∨ j = now) ∨ j ∈ q := fun j v hj hv => by
    by_cases hlt : v.length < w.length
    · rcases L.ord [] now q rfl w hw j v hj hlt with h | h
      · exact .inl (.inl h)
      · cases h
    · rcases List.eq_nil_or_concat v with h | ⟨u, c, h⟩
      · subst h; exact .inl (.inl (by rw [idx_uniq L.nd hj L.z]; exact L.root))
      · rw [List.concat_eq_append] at h
        subst h
        rw [List.length_append, List.length_singleton] at hv
        obtain ⟨m, hm⟩ := List.getElem?_of_mem (L.pre u c (List.mem_of_getElem? hj))
        have hDm : D m := by
          rcases L.ord [] now q rfl w hw m u hm (by omega) with h | h
          · exact h
          · cases h
        rcases L.child j m u c hj hm hDm with h | h
        · exact .inl (.inl h)
        · rcases List.mem_cons.1 h with h | h
          · exact .inl (.inr h)
          · exact .inr h
  refine ⟨⟨by rw [len]; exact L.len, L.nd, L.z, L.pre, .inl L.root, ?_, ?_, ?_, ?_, ?_, ?_, ?_, ?_, ?_, ?_⟩, ?_⟩
  · intro i hi v c hv hD hz
    rw [gt_eq hi, I.nx i _ c.toNat_lt, if_neg (fun h => hD (.inr h)), ← gt_eq (by omega)] at hz
    exact L.no i (by omega) v c hv (fun h => hD (.inl h)) hz
  · intro i hi v c hv hD hz
    rw [gt_eq hi, I.nx i _ c.toNat_lt, if_neg (fun h => hD (.inr h)), ← gt_eq (by omega)] at hz ⊢
    exact L.yes i (by omega) v c hv (fun h => hD (.inl h)) hz
  · intro i hi v c hv hD
    rw [gt_eq hi, I.nx i _ c.toNat_lt]
    by_cases hin : i = now
    · subst hin
      have hvw : v = w := Option.some.inj (hv.symm.trans hw)
      subst hvw
      rw [if_pos rfl]
      by_cases h0 : f0 c.toNat = 0
      · rw [if_pos ⟨c.toNat_lt, h0⟩, bk c, ← ls_back P v hne c (kno c h0)]
      · rw [if_neg (fun hh => h0 hh.2), kyes c h0, ls_self (List.mem_of_getElem? (kyes c h0))]
    · rw [if_neg hin, ← gt_eq (by omega)]
      exact L.dn i (by omega) v c hv (hD.resolve_right hin)
  · intro i hi v hv hm
    rw [gt_eq hi]
    by_cases hk : i ∈ kids f0 256
    · obtain ⟨c, h1, h2⟩ := kid i hk
      have hvw : v = w ++ [c] := Option.some.inj (hv.symm.trans h2)
      subst hvw
      obtain ⟨d, hd1, hd2, hd3⟩ := mem_kids.1 hk
      obtain ⟨c', rfl⟩ := u8of hd1
      have h3 := kyes c' hd2
      rw [hd3, h2] at h3
      have hcc : c = c' := by
        have := (List.append_inj' (Option.some.inj h3) rfl).2
        exact (List.cons.inj this).1
      subst hcc
      have := I.fa1 c.toNat c.toNat_lt hd2
      rw [h1] at this
      rw [this, bk c, fl_child P w hne c]
    · rw [I.fa0 i fun d hd hf hh => hk (mem_kids.2 ⟨d, hd, hf, hh⟩), ← gt_eq (by omega)]
      refine L.fa i (by omega) v hv ?_
      rcases hm with (h | h) | h
      · exact .inl h
      · exact .inr (h ▸ List.mem_cons_self)
      · rcases List.mem_append.1 h with h | h
        · exact .inr (List.mem_cons_of_mem _ h)
        · exact absurd h hk
  · intro i hi v hv hD
    rw [gt_eq hi, I.ou]
    by_cases hin : i = now
    · subst hin
      have hvw : v = w := Option.some.inj (hv.symm.trans hw)
      rw [if_pos rfl, hvw]; exact ho
    · rw [if_neg hin, ← gt_eq (by omega)]
      exact L.ou i (by omega) v hv (hD.resolve_right hin)
  · intro i hi v hv
    rw [gt_eq hi, I.en, ← gt_eq (by omega)]
    exact L.en i (by omega) v hv
  · intro i hi
    rcases List.mem_append.1 hi with h | h
    · have h1 := L.apart i (List.mem_cons_of_mem _ h)
      exact ⟨fun hh => hh.elim h1.1 fun e => hqn.1 (e ▸ h), by omega⟩
    · obtain ⟨c, _, h2⟩ := kid i h
      have h3 := kapart i h
      exact ⟨fun hh => hh.elim h3.1 fun e => h3.2 (e ▸ List.mem_cons_self), by rw [len]; exact L.lt h2⟩
  · refine List.nodup_append.2 ⟨hqn.2, ?_, fun a ha b hb hab => ?_⟩
    · unfold kids
      refine List.pairwise_map.2 ?_
      have hp : (List.range 256).Pairwise fun a b => a < b := List.pairwise_lt_range
      rw [List.pairwise_filter]
      refine hp.imp_of_mem fun {a b} ha hb hab h1 h2 he => ?_
      obtain ⟨x, rfl⟩ := u8of (List.mem_range.1 ha)
      obtain ⟨y, rfl⟩ := u8of (List.mem_range.1 hb)
      have e1 := kyes x (of_decide_eq_true h1)
      have e2 := kyes y (of_decide_eq_true h2)
      rw [he, e2] at e1
      have := (List.append_inj' (Option.some.inj e1) rfl).2
      have := (List.cons.inj this).1
      subst this; omega
    · subst hab; exact (kapart a hb).2 (List.mem_cons_of_mem _ ha)
  · intro i j v c hi hj hD
    by_cases hjn : j = now
    · subst hjn
      have hvw : v = w := Option.some.inj (hj.symm.trans hw)
      subst hvw
      by_cases h0 : f0 c.toNat = 0
      · exact absurd (List.mem_of_getElem? hi) (kno c h0)
      · have := idx_uniq L.nd (kyes c h0) hi
        exact .inr (List.mem_append_right _ (mem_kids.2 ⟨c.toNat, c.toNat_lt, h0, this⟩))
    · rcases L.child i j v c hi hj (hD.resolve_right hjn) with h | h
      · exact .inl (.inl h)
      · rcases List.mem_cons.1 h with h | h
        · exact .inl (.inr h)
        · exact .inr (List.mem_append_left _ h)
  · intro p i q' he v hv j u hj hlt
    rcases List.append_eq_append_iff.1 he with ⟨a', h1, h2⟩ | ⟨c', h1, h2⟩
    · -- i among the children
      have hik : i ∈ kids f0 256 := by rw [h2]; simp
      obtain ⟨c, _, h3⟩ := kid i hik
      have hvw : v = w ++ [c] := Option.some.inj (hv.symm.trans h3)
      subst hvw
      rw [List.length_append, List.length_singleton] at hlt
      rcases hshort j u hj (by omega) with h | h
      · exact .inl h
      · exact .inr (by rw [h1]; exact List.mem_append_left _ h)
    · cases c' with
      | nil =>
        rw [List.nil_append] at h2
        have hik : i ∈ kids f0 256 := by rw [← h2]; simp
        obtain ⟨c, _, h3⟩ := kid i hik
        have hvw : v = w ++ [c] := Option.some.inj (hv.symm.trans h3)
        subst hvw
        rw [List.length_append, List.length_singleton] at hlt
        rcases hshort j u hj (by omega) with h | h
        · exact .inl h
        · rw [List.append_nil] at h1
          exact .inr (by rw [← h1]; exact h)
      | cons x c' =>
        rw [List.cons_append, List.cons.injEq] at h2
        obtain ⟨rfl, h2⟩ := h2
        rcases L.ord (now :: p) i c' (by rw [h1]; rfl) v hv j u hj hlt with h | h
        · exact .inl (.inl h)
        · rcases List.mem_cons.1 h with h | h
          · exact .inl (.inr h)
          · exact .inr h
  · intro i j v c hi hj hD
    rcases hD with (h | h) | h
    · exact .inl (L.up i j v c hi hj (.inl h))
    · exact .inl (L.up i j v c hi hj (.inr (h ▸ List.mem_cons_self)))
    · rcases List.mem_append.1 h with h | h
      · exact .inl (L.up i j v c hi hj (.inr (List.mem_cons_of_mem _ h)))
      · obtain ⟨d, _, h3⟩ := kid i h
        have := (List.append_inj' (Option.some.inj (hi.symm.trans h3)) rfl).1
        subst this
        exact .inr (idx_uniq L.nd hj hw)
/-- At the start: the root is done, its children wait. -/
theorem Trie.start (T : Trie sg ws E) : Lq sg ws E (fun i => i ∈ [0]) (kids (gt sg 0).nx 256) := by
  have P : Pre ws := ⟨List.mem_of_getElem? T.z, T.pre⟩
  have h0 := T.lt T.z
  generalize hf0 : (gt sg 0).nx = f0
  have kyes : ∀ c : UInt8, f0 c.toNat ≠ 0 → ws[f0 c.toNat]? = some [c] := fun c hc => by
    have := T.yes 0 h0 [] c T.z (by rw [gt_eq h0, hf0]; exact hc)
    rw [gt_eq h0, hf0] at this; exact this
  have kno : ∀ c : UInt8, f0 c.toNat = 0 → [c] ∉ ws := fun c hc => T.no 0 h0 [] c T.z (by rw [gt_eq h0, hf0]; exact hc)
  have kid : ∀ i, i ∈ kids f0 256 → ∃ c : UInt8, f0 c.toNat = i ∧ ws[i]? = some [c] := fun i hi => by
    obtain ⟨d, h1, h2, h3⟩ := mem_kids.1 hi
    obtain ⟨c, rfl⟩ := u8of h1
    subst h3
    exact ⟨c, rfl, kyes c h2⟩
  have z : ∀ {i : Nat}, i ∈ [0] → i = 0 := fun h => List.mem_singleton.1 h
  have nz : ∀ {i : Nat} {c : UInt8}, ws[i]? = some [c] → i ≠ 0 := fun h e => by subst e; have := Option.some.inj (h.symm.trans T.z); cases this
  have lsn : ls ws [] = [] := rfl
  refine ⟨⟨T.len, T.nd, T.z, T.pre, List.mem_singleton.2 rfl, fun i hi v c hv _ => T.no i hi v c hv, fun i hi v c hv _ => T.yes i hi v c hv, ?_, ?_, ?_, T.en, ?_, ?_, ?_, ?_⟩, ?_⟩
  · intro i hi v c hv hD
    have := z hD
    subst this
    have hvn : v = [] := Option.some.inj (hv.symm.trans T.z)
    subst hvn
    rw [gt_eq hi, hf0]
    by_cases hc : f0 c.toNat = 0
    · rw [hc, T.z]
      congr 1
      show [] = ls ws [c]
      unfold ls; rw [if_neg (kno c hc)]; rfl
    · rw [kyes c hc]
      congr 1
      exact (ls_self (List.mem_of_getElem? (kyes c hc))).symm
  · intro i hi v hv hm
    rw [(T.fo i hi).1, T.z]
    congr 1
    rcases hm with h | h
    · have := z h
      subst this
      have hvn : v = [] := Option.some.inj (hv.symm.trans T.z)
      subst hvn; rfl
    · obtain ⟨c, _, h2⟩ := kid i h
      have hvn : v = [c] := Option.some.inj (hv.symm.trans h2)
      subst hvn; rfl
  · intro i hi v hv hD
    have := z hD
    subst this
    have hvn : v = [] := Option.some.inj (hv.symm.trans T.z)
    subst hvn
    rw [(T.fo 0 hi).2, T.z, outW_nil]
  · intro i hi
    obtain ⟨c, _, h2⟩ := kid i hi
    exact ⟨fun h => nz h2 (z h), T.lt h2⟩
  · unfold kids
    refine List.pairwise_map.2 ?_
    have hp : (List.range 256).Pairwise fun a b => a < b := List.pairwise_lt_range
    rw [List.pairwise_filter]
    refine hp.imp_of_mem fun {a b} ha hb hab h1 h2 he => ?_
    obtain ⟨x, rfl⟩ := u8of (List.mem_range.1 ha)
    obtain ⟨y, rfl⟩ := u8of (List.mem_range.1 hb)
    have e1 := kyes x (of_decide_eq_true h1)
    have e2 := kyes y (of_decide_eq_true h2)
    rw [he, e2] at e1
    have := (List.cons.inj (Option.some.inj e1)).1
    subst this; omega
  · intro i j v c hi hj hD
    have := z hD
    subst this
    have hvn : v = [] := Option.some.inj (hj.symm.trans T.z)
    subst hvn
    by_cases hc : f0 c.toNat = 0
    · exact absurd (List.mem_of_getElem? hi) (kno c hc)
    · exact .inr (mem_kids.2 ⟨c.toNat, c.toNat_lt, hc, idx_uniq T.nd (kyes c hc) hi⟩)
  · intro p i q' he v hv j u hj hlt
    obtain ⟨c, _, h2⟩ := kid i (by rw [he]; simp)
    have hvn : v = [c] := Option.some.inj (hv.symm.trans h2)
    subst hvn
    have : u = [] := List.length_eq_zero_iff.1 (by simpa using hlt)
    subst this
    exact .inl (List.mem_singleton.2 (idx_uniq T.nd hj T.z))
  · intro i j v c hi hj hD
    rcases hD with h | h
    · have := z h
      subst this
      have := Option.some.inj (hi.symm.trans T.z)
      simp at this
    · obtain ⟨d, _, h2⟩ := kid i h
      have := (List.append_inj' (s₁ := v) (s₂ := []) (Option.some.inj (hi.symm.trans h2)) rfl).1
      subst this
      exact List.mem_singleton.2 (idx_uniq T.nd hj T.z)
/-- The automaton that is ready. -/
structure Done (sg : List St) (ws : List Nm) (E : Nm → List Nat) : Prop where
  len : sg.length = ws.length
  nd : ws.Nodup
  z : ws[0]? = some []
  pre : ∀ w c, w ++ [c] ∈ ws → w ∈ ws
  nx : ∀ i (hi : i < sg.length) w (c : UInt8), ws[i]? = some w → ws[sg[i].nx c.toNat]? = some (ls ws (w ++ [c]))
  ou : ∀ i (hi : i < sg.length) w, ws[i]? = some w → ws[sg[i].ou]? = some (outW ws E w)
  en : ∀ i (hi : i < sg.length) w, ws[i]? = some w → sg[i].en = E w
theorem Lk.done (L : Lk sg ws E D []) : Done sg ws E :=
  ⟨L.len, L.nd, L.z, L.pre, fun i hi w c hw => L.dn i hi w c hw (L.all _ w (Nat.le_refl _) i hw), fun i hi w hw => L.ou i hi w hw (L.all _ w (Nat.le_refl _) i hw), L.en⟩
end
end Go.Proofs.YthnheldoklgceaaDoor
