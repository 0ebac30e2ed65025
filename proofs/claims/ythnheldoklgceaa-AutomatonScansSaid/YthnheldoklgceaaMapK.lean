/-
  Maps: what lookups, updates, deletes and ranges do to a heap.
-/
import Derived.Test.YthnheldoklgceaaArgs
namespace Go.Proofs.Ythnheldoklgceaa
set_option linter.unusedSimpArgs false
set_option linter.unusedVariables false
set_option maxRecDepth 20000
open Go
abbrev Ent (κ : Type) := κ × Value × Nat
section
variable {P : Program} {κ : Type} {enc : κ → Value}
def mkE (enc : κ → Value) (e : Ent κ) : MapEntry := ⟨enc e.1, e.2.1, e.2.2⟩
def prE (e : Ent κ) : κ × Value := (e.1, e.2.1)
def findE [DecidableEq κ] (a : κ) : List (Ent κ) → Nat → Option (Nat × Value)
  | [], _ => none
  | e :: es, i => if a = e.1 then some (i, e.2.1) else findE a es (i + 1)
/-- A type of keys: its values, and that the model finds them. -/
structure KeyT (P : Program) (kt : TypeId) {κ : Type} [DecidableEq κ] (enc : κ → Value) : Prop where
  same : ∀ a, Instr.sameBits 10000 (enc a) (enc a) = true
  check : ∀ (b : Bool) (a : κ) {h : Heap} {K : Unit → Heap → Prop}, K () h → wpH P (Instr.checkKey b 10000 kt (enc a)) K h
  find : ∀ (a : κ) (es : List (Ent κ)) {h : Heap} {K : Option (Nat × Value) → Heap → Prop}, K (findE a es 0) h → wpH P (Instr.findKey kt (enc a) (es.map (mkE enc))) K h
structure EntOk {κ : Type} (es : List (Ent κ)) (clock : Nat) : Prop where
  keys : (es.map (·.1)).Nodup
  borns : (es.map (·.2.2)).Nodup
  lt : ∀ e ∈ es, e.2.2 < clock
def MapAt (enc : κ → Value) (h : Heap) (r : Nat) (es : List (Ent κ)) (clock : Nat) : Prop := h[r]? = some (.map (es.map (mkE enc)).toArray clock)
/-- A map that is known: its keys and values, in some order. -/
def MapI (enc : κ → Value) (h : Heap) (r : Nat) (m : List (κ × Value)) : Prop := ∃ es clock, MapAt enc h r es clock ∧ EntOk es clock ∧ es.map prE = m
def getL {κ : Type} [DecidableEq κ] (m : List (κ × Value)) (a : κ) : Option Value := (m.find? fun e => decide (e.1 = a)).map (·.2)
def putL {κ : Type} [DecidableEq κ] (m : List (κ × Value)) (a : κ) (v : Value) : List (κ × Value) := if (getL m a).isSome then m.map (fun e => if e.1 = a then (e.1, v) else e) else m ++ [(a, v)]
def delL {κ : Type} [DecidableEq κ] (m : List (κ × Value)) (a : κ) : List (κ × Value) := m.filter fun e => decide (e.1 ≠ a)
theorem MapI.fr {S : Nat → Prop} {h h' : Heap} {r : Nat} {m : List (κ × Value)} (I : MapI enc h r m) (f : Fr S h h') (hn : ¬ S r) : MapI enc h' r m := by
  obtain ⟨es, c, h1, h2, h3⟩ := I; exact ⟨es, c, f.get h1 hn, h2, h3⟩
theorem MapI.lt {h : Heap} {r : Nat} {m : List (κ × Value)} (I : MapI enc h r m) : r < h.size := by
  obtain ⟨es, c, h1, _⟩ := I; exact lt_of_get h1
theorem MapI.keys {h : Heap} {r : Nat} {m : List (κ × Value)} (I : MapI enc h r m) : (m.map (·.1)).Nodup := by
  obtain ⟨es, c, h1, h2, rfl⟩ := I
  rw [List.map_map]; exact h2.keys
section
variable [DecidableEq κ]
theorem findE_get (a : κ) : ∀ (es : List (Ent κ)) (i : Nat), (findE a es i).map (·.2) = getL (es.map prE) a
  | [], _ => rfl
  | e :: es, i => by
    unfold findE getL
    rw [List.map_cons, List.find?_cons]
    by_cases h : a = e.1
    · rw [if_pos h]; simp [prE, h]
    · rw [if_neg h, findE_get a es (i + 1)]
      have : decide ((prE e).1 = a) = false := by rw [decide_eq_false_iff_not]; exact fun (h' : e.1 = a) => h h'.symm
      rw [this]; rfl
theorem findE_idx (a : κ) : ∀ (es : List (Ent κ)) (i j : Nat) (v : Value), findE a es i = some (j, v) → ∃ k, ∃ hk : k < es.length, j = i + k ∧ es[k].1 = a ∧ es[k].2.1 = v
  | [], _, _, _, h => by cases h
  | e :: es, i, j, v, h => by
    unfold findE at h
    by_cases ha : a = e.1
    · rw [if_pos ha] at h
      simp only [Option.some.injEq, Prod.mk.injEq] at h
      exact ⟨0, by simp, by omega, ha.symm, h.2⟩
    · rw [if_neg ha] at h
      obtain ⟨k, hk, e1, e2, e3⟩ := findE_idx a es (i + 1) j v h
      exact ⟨k + 1, by simp; omega, by omega, e2, e3⟩
theorem findE_none (a : κ) : ∀ (es : List (Ent κ)) (i : Nat), findE a es i = none → ∀ e ∈ es, e.1 ≠ a
  | [], _, _, _, he => by cases he
  | e :: es, i, h, x, hx => by
    unfold findE at h
    by_cases ha : a = e.1
    · rw [if_pos ha] at h; cases h
    · rw [if_neg ha] at h
      rcases List.mem_cons.1 hx with rfl | hx
      · exact fun h => ha h.symm
      · exact findE_none a es (i + 1) h x hx
end
theorem wpH_getObj {h : Heap} {r : Nat} {o : Obj} (ho : h[r]? = some o) (hn : notRow o = true) {K : Obj → Heap → Prop} (hk : K o h) : wpH P (getObj r) K h := ⟨o, ho, hn, hk⟩
theorem wpH_setObj {h : Heap} {r : Nat} {o o' : Obj} (ho : h[r]? = some o') (hn : notRow o' = true) {K : Unit → Heap → Prop} (hk : K () (h.setIfInBounds r o)) : wpH P (setObj r o) K h := ⟨⟨o', ho, hn⟩, hk⟩
theorem look_mk [DecidableEq κ] {mt kt et : TypeId} (T : KeyT P kt enc) (hu : P.underlying mt = some (.map kt et)) {z : Value} (hz : ∀ {h : Heap} {K : Value → Heap → Prop}, K z h → wpH P (zeroValue et) K h)
    {h : Heap} {r : Nat} {m : List (κ × Value)} (I : MapI enc h r m) (a : κ) (ok : Bool) {K : Value → Heap → Prop}
    (hk : K (if ok then .tuple #[(getL m a).getD z, .bool (getL m a).isSome] else (getL m a).getD z) h) : lookV P mt (.map (some r)) (enc a) ok h K := by
  obtain ⟨es, c, h1, h2, rfl⟩ := I
  unfold lookV Instr.lookup
  simp only [bind]
  rw [wpH_bind]; refine wpH_underlying hu ?_
  simp only
  rw [wpH_bind]; refine wpH_getObj h1 rfl ?_
  simp only [pure, Sem.bind]
  rw [wpH_bind]; refine T.check _ a ?_
  rw [wpH_bind]
  refine T.find a es ?_
  rw [← findE_get a es 0] at hk
  cases hf : findE a es 0 with
  | none =>
    rw [hf] at hk
    simp only
    rw [wpH_bind]; refine hz ?_
    exact hk
  | some x =>
    rw [hf] at hk
    exact hk
theorem len_mk {mt kt et ty : TypeId} (hu : P.underlying mt = some (.map kt et)) {h : Heap} {r : Nat} {m : List (κ × Value)} (I : MapI enc h r m) {cs : Array Bool} {K : Value → Heap → Prop}
    (hk : K (.int .i64 m.length) h) : bltV P .len #[mt] ty cs #[.map (some r)] h K := by
  obtain ⟨es, c, h1, h2, rfl⟩ := I
  unfold bltV
  show wpH P (Sem.bind (Builtin.len_ #[mt] ty #[.map (some r)]) fun v => .pure (.value v)) (nxK K) h
  rw [wpH_bind]
  unfold Builtin.len_
  simp only [bind, List.getElem?_toArray, List.getElem?_cons_zero]
  rw [wpH_bind]; refine wpH_underlying hu ?_
  simp only
  rw [wpH_bind]; refine wpH_getObj h1 rfl ?_
  simp only [pure, wpH, nxK, goInt]
  simpa using hk
/-! ### Updates -/
theorem modE {es : List (Ent κ)} {k : Nat} (hk : k < es.length) (f : MapEntry → MapEntry) (e' : Ent κ) (h : f (mkE enc es[k]) = mkE enc e') : ((es.map (mkE enc)).toArray.modify k f) = ((es.set k e').map (mkE enc)).toArray := by
  apply Array.ext_getElem?
  intro i
  rw [Array.getElem?_modify, List.getElem?_toArray, List.getElem?_toArray, List.getElem?_map, List.getElem?_map, List.getElem?_set]
  by_cases e : k = i
  · subst e
    rw [if_pos rfl, if_pos rfl, if_pos hk, List.getElem?_eq_getElem hk]
    simp [h]
  · rw [if_neg e, if_neg e]
theorem set_map {α β : Type} (f : α → β) (l : List α) (k : Nat) (x : α) : (l.set k x).map f = (l.map f).set k (f x) := List.map_set
theorem set_same {α : Type} (l : List α) (k : Nat) (hk : k < l.length) : l.set k l[k] = l := by
  apply List.ext_getElem (by simp)
  intro i h1 h2
  rw [List.getElem_set]
  split
  · rename_i e; subst e; rfl
  · rfl
theorem put_set [DecidableEq κ] {m : List (κ × Value)} (nd : (m.map (·.1)).Nodup) {k : Nat} (hk : k < m.length) {a : κ} (ha : m[k].1 = a) (v : Value) : m.map (fun e => if e.1 = a then (e.1, v) else e) = m.set k (a, v) := by
  apply List.ext_getElem (by simp)
  intro i h1 h2
  have hi : i < m.length := by simpa using h1
  rw [List.getElem_map, List.getElem_set]
  split
  · rename_i e
    split
    · rw [e]
    · rename_i hne
      have : i = k := by
        have := (List.getElem_inj (h₀ := by simpa using hi) (h₁ := by simpa using hk) nd).1 (by simp only [List.getElem_map]; rw [e, ha])
        exact this
      exact absurd this.symm hne
  · rename_i e
    split
    · rename_i e2; subst e2; exact absurd ha e
    · rfl
theorem get_some [DecidableEq κ] {m : List (κ × Value)} {a : κ} : (getL m a).isSome = true ↔ ∃ e ∈ m, e.1 = a := by
  unfold getL
  rw [Option.isSome_map, List.find?_isSome]
  simp
theorem mapUpd_mk [DecidableEq κ] {mt kt et : TypeId} (T : KeyT P kt enc) (hu : P.underlying mt = some (.map kt et)) {h : Heap} {r : Nat} {m : List (κ × Value)} (I : MapI enc h r m) (a : κ) (v : Value) {K : Heap → Prop}
    (hk : ∀ h', Fr (fun b => b = r) h h' → h'.size = h.size → MapI enc h' r (putL m a v) → K h') : mapUpdV P mt (.map (some r)) (enc a) v h K := by
  obtain ⟨es, c, h1, h2, rfl⟩ := I
  unfold mapUpdV Instr.mapUpdate
  simp only [bind]
  rw [wpH_bind]; refine wpH_underlying hu ?_
  simp only
  rw [wpH_bind]; refine wpH_getObj h1 rfl ?_
  simp only
  rw [wpH_bind]; refine T.check _ a ?_
  rw [wpH_bind]
  refine T.find a es ?_
  cases hf : findE a es 0 with
  | none =>
    simp only
    refine wpH_setObj h1 rfl (hk _ (Fr.set _ _ rfl) (by simp) ⟨es ++ [(a, v, c)], c + 1, ?_, ?_, ?_⟩)
    · unfold MapAt
      rw [get_set h1]; simp [mkE]
    · have hn := findE_none a es 0 hf
      refine ⟨?_, ?_, ?_⟩
      · rw [List.map_append, List.nodup_append]
        refine ⟨h2.keys, by simp, fun x hx y hy => ?_⟩
        obtain ⟨e, he, rfl⟩ := List.mem_map.1 hx
        simp at hy; subst hy
        exact hn e he
      · rw [List.map_append, List.nodup_append]
        refine ⟨h2.borns, by simp, fun x hx y hy => ?_⟩
        obtain ⟨e, he, rfl⟩ := List.mem_map.1 hx
        simp at hy; subst hy
        have := h2.lt e he; omega
      · intro e he
        rcases List.mem_append.1 he with he | he
        · have := h2.lt e he; omega
        · simp at he; subst he; simp
    · have hn := findE_none a es 0 hf
      have : ¬ (getL (es.map prE) a).isSome = true := fun h => by
        obtain ⟨e, he, ha⟩ := get_some.1 h
        obtain ⟨x, hx, rfl⟩ := List.mem_map.1 he
        exact hn x hx ha
      unfold putL
      rw [if_neg this]; simp [prE]
  | some x =>
    obtain ⟨j, y⟩ := x
    obtain ⟨k, hkl, ej, ea, ev⟩ := findE_idx a es 0 j y hf
    have ej : j = k := by omega
    subst ej
    simp only
    rw [wpH_bind]
    have hkey : (((es.map (mkE enc)).toArray[j]?).map (·.key)).getD (enc a) = enc a := by
      simp [hkl, mkE, ea]
    unfold Instr.keyThatStays
    rw [hkey, T.same]
    simp only [if_true]
    refine wpH_setObj h1 rfl (hk _ (Fr.set _ _ rfl) (by simp) ⟨es.set j (a, v, es[j].2.2), c, ?_, ?_, ?_⟩)
    · unfold MapAt
      rw [get_set h1, modE hkl _ (a, v, es[j].2.2) (by simp [mkE])]
    · refine ⟨?_, ?_, fun e he => ?_⟩
      · rw [set_map]; show ((es.map (·.1)).set j a).Nodup
        have : (es.map (·.1)).set j a = es.map (·.1) := by
          have := set_same (es.map (·.1)) j (by simpa using hkl)
          simp only [List.getElem_map, ea] at this; exact this
        rw [this]; exact h2.keys
      · rw [set_map]; show ((es.map (·.2.2)).set j es[j].2.2).Nodup
        have : (es.map (·.2.2)).set j es[j].2.2 = es.map (·.2.2) := by
          have := set_same (es.map (·.2.2)) j (by simpa using hkl)
          simp only [List.getElem_map] at this; exact this
        rw [this]; exact h2.borns
      · rcases List.mem_or_eq_of_mem_set he with he | rfl
        · exact h2.lt e he
        · exact (h2.lt _ (List.getElem_mem hkl) : es[j].2.2 < c)
    · have hs : (getL (es.map prE) a).isSome = true := get_some.2 ⟨prE es[j], List.mem_map_of_mem (List.getElem_mem hkl), ea⟩
      unfold putL
      rw [if_pos hs, put_set (k := j) (a := a) (by rw [List.map_map]; exact h2.keys) (by simpa using hkl) (by simp [prE, ea]) v, set_map]
      rfl
/-! ### Deletes -/
theorem erase_map {α β : Type} (f : α → β) : ∀ (l : List α) (k : Nat), (l.map f).eraseIdx k = (l.eraseIdx k).map f
  | [], _ => rfl
  | _ :: _, 0 => rfl
  | x :: l, k + 1 => by rw [List.map_cons, List.eraseIdx_cons_succ, List.eraseIdx_cons_succ, List.map_cons, erase_map f l k]
theorem erase_filter {α : Type} {κ' : Type} [DecidableEq κ'] (f : α → κ') : ∀ (l : List α) (k : Nat) (hk : k < l.length), (l.map f).Nodup → l.eraseIdx k = l.filter fun e => decide (f e ≠ f l[k])
  | [], k, hk, _ => absurd hk (by simp)
  | x :: l, 0, _, nd => by
    rw [List.eraseIdx_zero, List.tail_cons]
    rw [List.map_cons, List.nodup_cons] at nd
    rw [List.filter_cons]
    simp only [List.getElem_cons_zero, ne_eq, not_true, decide_false, Bool.false_eq_true, if_false]
    symm
    rw [List.filter_eq_self]
    intro e he
    rw [decide_eq_true_eq]
    exact fun h => nd.1 (h ▸ List.mem_map_of_mem he)
  | x :: l, k + 1, hk, nd => by
    have hk' : k < l.length := by simpa using hk
    rw [List.map_cons, List.nodup_cons] at nd
    rw [List.eraseIdx_cons_succ, List.filter_cons, erase_filter f l k hk' nd.2]
    have : f x ≠ f l[k] := fun h => nd.1 (h ▸ List.mem_map_of_mem (List.getElem_mem hk'))
    simp [this]
theorem del_ents [DecidableEq κ] {es : List (Ent κ)} {c : Nat} (o : EntOk es c) (p : Ent κ → Bool) : EntOk (es.filter p) c :=
  ⟨o.keys.sublist (List.filter_sublist.map _), o.borns.sublist (List.filter_sublist.map _), fun e he => o.lt e (List.mem_filter.1 he).1⟩
/-- What a delete leaves of the model's entries. -/
theorem del_raw [DecidableEq κ] {mt kt et kT ty : TypeId} (T : KeyT P kt enc) (hu : P.underlying mt = some (.map kt et)) {h : Heap} {r : Nat} {es : List (Ent κ)} {c : Nat} (h1 : MapAt enc h r es c) (h2 : EntOk es c) (a : κ) {cs : Array Bool} {K : Value → Heap → Prop}
    (hk : ∀ h', Fr (fun b => b = r) h h' → h'.size = h.size → MapAt enc h' r (es.filter fun e => decide (e.1 ≠ a)) c → K (.tuple #[]) h') : bltV P .delete #[mt, kT] ty cs #[.map (some r), enc a] h K := by
  unfold bltV
  show wpH P (Sem.bind (Builtin.delete_ #[mt, kT] ty #[.map (some r), enc a]) fun v => .pure (.value v)) (nxK K) h
  rw [wpH_bind]
  unfold Builtin.delete_
  simp only [bind, List.getElem?_toArray, List.getElem?_cons_zero, List.getElem?_cons_succ]
  rw [wpH_bind]; refine wpH_underlying hu ?_
  simp only
  rw [wpH_bind]; refine wpH_getObj h1 rfl ?_
  simp only
  rw [wpH_bind]; refine T.check _ a ?_
  rw [wpH_bind]
  refine T.find a es ?_
  cases hf : findE a es 0 with
  | none =>
    simp only
    rw [wpH_bind]
    refine wpH_setObj h1 rfl ?_
    simp only [pure, wpH, nxK]
    refine hk _ (Fr.set _ _ rfl) (by simp) ?_
    have hn := findE_none a es 0 hf
    have e : (es.filter fun e => decide (e.1 ≠ a)) = es := by
      rw [List.filter_eq_self]; intro e he; rw [decide_eq_true_eq]; exact hn e he
    unfold MapAt
    rw [get_set h1, e]
  | some x =>
    obtain ⟨j, y⟩ := x
    obtain ⟨k, hkl, ej, ea, ev⟩ := findE_idx a es 0 j y hf
    have ej : j = k := by omega
    subst ej
    simp only
    rw [wpH_bind]
    refine wpH_setObj h1 rfl ?_
    simp only [pure, wpH, nxK]
    refine hk _ (Fr.set _ _ rfl) (by simp) ?_
    have e := erase_filter (·.1) es j hkl h2.keys
    rw [ea] at e
    unfold MapAt
    rw [get_set h1, ← e]
    simp [hkl, erase_map]
theorem filter_pr [DecidableEq κ] (es : List (Ent κ)) (a : κ) : (es.filter fun e => decide (e.1 ≠ a)).map prE = delL (es.map prE) a := by
  unfold delL
  rw [List.filter_map]; rfl
theorem del_mk [DecidableEq κ] {mt kt et kT ty : TypeId} (T : KeyT P kt enc) (hu : P.underlying mt = some (.map kt et)) {h : Heap} {r : Nat} {m : List (κ × Value)} (I : MapI enc h r m) (a : κ) {cs : Array Bool} {K : Value → Heap → Prop}
    (hk : ∀ h', Fr (fun b => b = r) h h' → h'.size = h.size → MapI enc h' r (delL m a) → K (.tuple #[]) h') : bltV P .delete #[mt, kT] ty cs #[.map (some r), enc a] h K := by
  obtain ⟨es, c, h1, h2, rfl⟩ := I
  exact del_raw T hu h1 h2 a fun h' f s h3 => hk h' f s ⟨_, c, h3, del_ents h2 _, filter_pr es a⟩
/-! ### Ranges -/
/-- A range that runs: the map, and what it has not shown yet. -/
def IterI (enc : κ → Value) (h : Heap) (it r : Nat) (m rest : List (κ × Value)) : Prop :=
  ∃ (es : List (Ent κ)) (c : Nat) (sn : Array Nat), MapAt enc h r es c ∧ EntOk es c ∧ es.map prE = m ∧ h[it]? = some (.mapIter (some r) c sn c) ∧ rest = (es.filter fun e => !sn.contains e.2.2).map prE
/-- A range that stands at an entry. -/
def IterC (enc : κ → Value) (h : Heap) (it r : Nat) (x : κ × Value) : Prop :=
  ∃ (es : List (Ent κ)) (c : Nat) (sn : Array Nat) (e : Ent κ), MapAt enc h r es c ∧ EntOk es c ∧ e ∈ es ∧ prE e = x ∧ h[it]? = some (.mapIter (some r) c (sn.push e.2.2) c)
theorem range_mk {mt kt et : TypeId} (hu : P.underlying mt = some (.map kt et)) {h : Heap} {r : Nat} {m : List (κ × Value)} (I : MapI enc h r m) {K : Value → Heap → Prop}
    (hk : ∀ it h', Fr (fun _ => False) h h' → it = h.size → IterI enc h' it r m m → K (.pointer (some ⟨it, 0, none⟩)) h') : rangeV P mt (.map (some r)) h K := by
  obtain ⟨es, c, h1, h2, rfl⟩ := I
  unfold rangeV Instr.range
  simp only [bind]
  rw [wpH_bind]; refine wpH_underlying hu ?_
  simp only
  rw [wpH_bind]; refine wpH_getObj h1 rfl ?_
  simp only [pure, Sem.bind]
  rw [wpH_bind]
  refine hk _ _ (Fr.push _ _ _) rfl ⟨es, c, #[], get_push h1, h2, rfl, get_push_self, ?_⟩
  have : (es.filter fun e => !(#[] : Array Nat).contains e.2.2) = es := by rw [List.filter_eq_self]; intro e _; simp
  rw [this]
theorem entry_mk {h : Heap} {it r : Nat} {x : κ × Value} (I : IterC enc h it r x) {K : Value → Heap → Prop} (hk : K (.tuple #[enc x.1, x.2]) h) : entryV P (.pointer (some ⟨it, 0, none⟩)) h K := by
  obtain ⟨es, c, sn, e, h1, h2, he, rfl, h3⟩ := I
  unfold entryV Instr.entry
  simp only [bind]
  rw [wpH_bind]; refine wpH_getObj h3 rfl ?_
  simp only [Array.back?_push]
  rw [wpH_bind]; refine wpH_getObj h1 rfl ?_
  simp only [bne_self_eq_false, Bool.false_eq_true, if_false]
  have : (es.map (mkE enc)).toArray.find? (·.born == e.2.2) = some (mkE enc e) := by
    rw [List.find?_toArray, List.find?_map]
    have : es.find? ((fun x : MapEntry => x.born == e.2.2) ∘ mkE enc) = some e := by
      have hb := h2.borns
      clear h1 h2 h3 hk
      induction es with
      | nil => cases he
      | cons y es ih =>
        rw [List.map_cons, List.nodup_cons] at hb
        rw [List.find?_cons]
        rcases List.mem_cons.1 he with rfl | he
        · simp [mkE]
        · have : ((fun x : MapEntry => x.born == e.2.2) ∘ mkE enc) y = false := by
            simp only [Function.comp, mkE, beq_eq_false_iff_ne]
            exact fun h => hb.1 (h ▸ List.mem_map_of_mem he)
          rw [this]; exact ih he hb.2
    rw [this]; rfl
  rw [this]
  exact hk
theorem next_mk {h : Heap} {it r : Nat} {m rest : List (κ × Value)} {ty : TypeId} (I : IterI enc h it r m rest) {K : Value → Heap → Prop} (h0 : rest = [] → K (.tuple #[.bool false]) h)
    (hk : ∀ a x b h', rest = a ++ x :: b → x ∈ m → Fr (fun y => y = it) h h' → h'.size = h.size → IterI enc h' it r m (a ++ b) → IterC enc h' it r x → K (.tuple #[.bool true, enc x.1, x.2]) h') :
    nextV P (.pointer (some ⟨it, 0, none⟩)) false ty h K := by
  obtain ⟨es, c, sn, h1, h2, rfl, h3, rfl⟩ := I
  have hne : it ≠ r := fun h => by subst h; rw [h1] at h3; cases h3
  unfold nextV Instr.next
  simp only [bind]
  rw [wpH_bind]; refine wpH_getObj h3 rfl ?_
  simp only
  rw [wpH_bind]; refine wpH_getObj h1 rfl ?_
  simp only
  have hall : (!(es.map (mkE enc)).toArray.isEmpty && (es.map (mkE enc)).toArray.all (fun e => decide (e.born ≥ c))) = false := by
    cases es with
    | nil => rfl
    | cons e es =>
      have := h2.lt e (by simp)
      simp [mkE]; intro _; omega
  have hcond : (!sn.isEmpty && !(es.map (mkE enc)).toArray.isEmpty && (es.map (mkE enc)).toArray.all (fun e => decide (e.born ≥ c))) = false := by
    rw [Bool.and_assoc, hall, Bool.and_false]
  rw [hcond]
  simp only [Bool.false_eq_true, if_false]
  generalize hL : (es.filter fun e => !sn.contains e.2.2) = L at h0 hk
  have hleft : ((es.map (mkE enc)).toArray.filter fun e => !sn.contains e.born) = (L.map (mkE enc)).toArray := by
    rw [← hL, List.filter_toArray, List.filter_map]; rfl
  have hLs : ∀ e ∈ L, e ∈ es := fun e he => by rw [← hL] at he; exact (List.mem_filter.1 he).1
  have hold : ((L.map (mkE enc)).toArray.filter fun e => decide (e.born < c)) = (L.map (mkE enc)).toArray := by
    rw [List.filter_toArray]; congr 1
    rw [List.filter_eq_self]
    intro x hx
    obtain ⟨e, he, rfl⟩ := List.mem_map.1 hx
    exact decide_eq_true (h2.lt e (hLs e he))
  have hnew : ((L.map (mkE enc)).toArray.filter fun e => decide (e.born ≥ c)) = #[] := by
    rw [List.filter_toArray]
    have : ((L.map (mkE enc)).filter fun e => decide (e.born ≥ c)) = [] := by
      rw [List.filter_eq_nil_iff]
      intro x hx
      obtain ⟨e, he, rfl⟩ := List.mem_map.1 hx
      have := h2.lt e (hLs e he)
      simp [mkE]; omega
    rw [this]
  rw [hleft, hold, hnew]
  have hcand : ((if (L.map (mkE enc)).toArray.isEmpty = true then #[none] else #[]) ++ ((L.map (mkE enc)).toArray ++ #[]).map some : Array (Option MapEntry)) = (if L = [] then [none] else L.map fun e => some (mkE enc e)).toArray := by
    cases L with
    | nil => simp
    | cons e L => simp
  rw [hcand]
  have step : ∀ n, n < (if L = [] then [none] else L.map fun e => some (mkE enc e)).length → wpH P (match (if L = [] then [none] else L.map fun e => some (mkE enc e)).toArray[n]? with
      | some (some e) => (setObj it (.mapIter (some r) c (sn.push e.born) c)).bind fun _ => pure (.tuple #[.bool true, e.key, e.val])
      | some none => pure (.tuple #[.bool false])
      | none => stuck "Next: no such candidate") K h := by
    intro n hn
    by_cases hl : L = []
    · subst hl
      simp only [if_true, List.length_singleton] at hn
      have : n = 0 := by omega
      subst this
      exact h0 rfl
    · rw [if_neg hl] at hn ⊢
      have hn' : n < L.length := by simpa using hn
      have e1 : (L.map fun e => some (mkE enc e)).toArray[n]? = some (some (mkE enc L[n])) := by simp [hn']
      rw [e1]
      simp only
      rw [wpH_bind]
      refine wpH_setObj h3 rfl ?_
      have hf : Fr (fun y => y = it) h (h.setIfInBounds it (.mapIter (some r) c (sn.push L[n].2.2) c)) := Fr.set _ _ rfl
      have hm : MapAt enc (h.setIfInBounds it (.mapIter (some r) c (sn.push L[n].2.2) c)) r es c := get_set_ne h1 hne
      have hd : L = L.take n ++ L[n] :: L.drop (n + 1) := by rw [← List.drop_eq_getElem_cons hn', List.take_append_drop]
      have hnd : (L.map (·.2.2)).Nodup := by rw [← hL]; exact h2.borns.sublist (List.filter_sublist.map _)
      have hrest : (es.filter fun e => !(sn.push L[n].2.2).contains e.2.2) = L.take n ++ L.drop (n + 1) := by
        have e2 : ∀ b : Nat, (es.filter fun e => !(sn.push b).contains e.2.2) = L.filter fun e => decide (e.2.2 ≠ b) := by
          intro b
          rw [← hL, List.filter_filter]
          apply List.filter_congr
          intro e _
          simp only [Array.contains_push]
          by_cases h : e.2.2 = b
          · simp [h]
          · simp [h]
        rw [e2, ← erase_filter (·.2.2) L n hn' hnd, List.eraseIdx_eq_take_drop_succ]
      have hd2 : L.map prE = (L.take n).map prE ++ prE L[n] :: (L.drop (n + 1)).map prE := by
        conv => lhs; rw [hd]
        rw [List.map_append, List.map_cons]
      refine hk ((L.take n).map prE) (prE L[n]) ((L.drop (n + 1)).map prE) _ hd2 (List.mem_map_of_mem (hLs _ (List.getElem_mem hn'))) hf (by simp) ?_ ?_
      · exact ⟨es, c, _, hm, h2, rfl, get_set h3, by
          show _ = (es.filter fun e => !(sn.push L[n].2.2).contains e.2.2).map prE
          rw [hrest, List.map_append]⟩
      · exact ⟨es, c, sn, L[n], hm, h2, hLs _ (List.getElem_mem hn'), rfl, get_set h3⟩
  show wpH P (Sem.bind (choose _) _) K h
  rw [wpH_bind]
  have hpos : 0 < (if L = [] then [none] else L.map fun e => some (mkE enc e)).length := by
    split
    · simp
    · rename_i hl; simpa using List.length_pos_iff.2 hl
  exact ⟨fun t => step _ (Nat.mod_lt _ (by simpa using hpos)), fun _ => step 0 hpos⟩
/-- A delete while a range runs. -/
theorem iter_del [DecidableEq κ] {mt kt et kT ty : TypeId} (T : KeyT P kt enc) (hu : P.underlying mt = some (.map kt et)) {h : Heap} {it r : Nat} {m rest : List (κ × Value)} (I : IterI enc h it r m rest) (a : κ) {cs : Array Bool} {K : Value → Heap → Prop}
    (hk : ∀ h', Fr (fun b => b = r) h h' → h'.size = h.size → IterI enc h' it r (delL m a) (delL rest a) → K (.tuple #[]) h') : bltV P .delete #[mt, kT] ty cs #[.map (some r), enc a] h K := by
  obtain ⟨es, c, sn, h1, h2, rfl, h3, rfl⟩ := I
  have hne : ¬ it = r := fun h => by subst h; rw [h1] at h3; cases h3
  refine del_raw T hu h1 h2 a fun h' f s h4 => hk h' f s ⟨_, c, sn, h4, del_ents h2 _, filter_pr es a, f.get h3 hne, ?_⟩
  rw [← filter_pr, List.filter_filter, List.filter_filter]
  congr 1
  apply List.filter_congr
  intro e _
  rw [Bool.and_comm]
/-- How much a range has not shown yet, read off the heap. -/
def leftN (h : Heap) (it r : Nat) : Nat := match h[it]?, h[r]? with
  | some (.mapIter _ _ sn _), some (.map es _) => (es.toList.filter fun e => !sn.contains e.born).length
  | _, _ => 0
theorem IterI.left {h : Heap} {it r : Nat} {m rest : List (κ × Value)} (I : IterI enc h it r m rest) : leftN h it r = rest.length := by
  obtain ⟨es, c, sn, h1, h2, rfl, h3, rfl⟩ := I
  unfold leftN
  rw [h3, h1]
  simp only [List.filter_map, List.length_map]
  rfl
theorem IterI.lt {h : Heap} {it r : Nat} {m rest : List (κ × Value)} (I : IterI enc h it r m rest) : it < h.size := by
  obtain ⟨es, c, sn, h1, h2, _, h3, _⟩ := I; exact lt_of_get h3
theorem IterI.map {h : Heap} {it r : Nat} {m rest : List (κ × Value)} (I : IterI enc h it r m rest) : MapI enc h r m := by
  obtain ⟨es, c, sn, h1, h2, h3, _⟩ := I; exact ⟨es, c, h1, h2, h3⟩
theorem IterI.fr {S : Nat → Prop} {h h' : Heap} {it r : Nat} {m rest : List (κ × Value)} (I : IterI enc h it r m rest) (f : Fr S h h') (h1 : ¬ S r) (h2 : ¬ S it) : IterI enc h' it r m rest := by
  obtain ⟨es, c, sn, a, b, d, e, g⟩ := I; exact ⟨es, c, sn, f.get a h1, b, d, f.get e h2, g⟩
theorem mkMap_mk {h : Heap} {K : Nat → Heap → Prop} (enc : κ → Value) (hk : ∀ r h', Fr (fun _ => False) h h' → r = h.size → MapI enc h' r [] → K r h') : mkMapV h K :=
  hk _ _ (Fr.push _ _ _) rfl ⟨[], 0, get_push_self, ⟨by simp, by simp, fun _ h => by cases h⟩, rfl⟩
end
end Go.Proofs.Ythnheldoklgceaa
