/-
  Maps by numbers, by strings.
-/
import Derived.Test.YthnheldoklgceaaMapK
import Derived.Test.YthnheldoklgceaaQEq
import Derived.Test.YthnheldoklgceaaRow
namespace Go.Proofs.Ythnheldoklgceaa
set_option linter.unusedSimpArgs false
set_option linter.unusedVariables false
set_option maxRecDepth 20000
open Go
section
variable {P : Program} {kt : TypeId}
theorem check_flat {v : Value} {d : TypeDesc} (hu : P.underlying kt = some d) (h1 : ∀ l t, d ≠ .array l t) (h2 : ∀ f, d ≠ .struct f) (h3 : ∀ m, d ≠ .interface m) (b : Bool) {h : Heap} {K : Unit → Heap → Prop} (hk : K () h) : wpH P (Instr.checkKey b (9999 + 1) kt v) K h := by
  unfold Instr.checkKey
  simp only [bind]
  rw [wpH_bind]
  refine wpH_underlying hu ?_
  cases d <;> first | exact hk | exact absurd rfl (h1 _ _) | exact absurd rfl (h2 _) | exact absurd rfl (h3 _)
theorem findNow_flat {κ : Type} [DecidableEq κ] {enc : κ → Value} {d : TypeDesc} (hs : ∀ a b, Instr.sameNow d (enc a) (enc b) = some (decide (a = b))) (a : κ) : ∀ (es : List (Ent κ)) (i : Nat), Instr.findNow d (enc a) (es.map (mkE enc)) i = some (findE a es i)
  | [], _ => rfl
  | e :: es, i => by
    rw [List.map_cons]
    unfold Instr.findNow findE
    show (match Instr.sameNow d (enc a) (enc e.1) with | some true => some (some (i, e.2.1)) | some false => Instr.findNow d (enc a) (es.map (mkE enc)) (i + 1) | none => none) = _
    rw [hs]
    by_cases h : a = e.1
    · rw [decide_eq_true h, if_pos h]
    · rw [decide_eq_false h, if_neg h]
      exact findNow_flat hs a es (i + 1)
theorem find_flat {κ : Type} [DecidableEq κ] {enc : κ → Value} {d : TypeDesc} (hu : P.underlying kt = some d) (hs : ∀ a b, Instr.sameNow d (enc a) (enc b) = some (decide (a = b))) (a : κ) (es : List (Ent κ)) {h : Heap} {K : Option (Nat × Value) → Heap → Prop} (hk : K (findE a es 0) h) : wpH P (Instr.findKey kt (enc a) (es.map (mkE enc))) K h := by
  unfold Instr.findKey
  simp only [bind]
  rw [wpH_bind]
  refine wpH_underlying hu ?_
  rw [findNow_flat hs a es 0]
  exact hk
def intE (k : IntKind) (n : Int) : Value := .int k n
def strE (l : List UInt8) : Value := .string (bs l)
theorem intKeyT {k : IntKind} (hu : P.underlying kt = some (.int k)) : KeyT P kt (intE k) :=
  ⟨fun a => by show (k == k && a == a) = true; simp, fun b a {h K} hk => check_flat hu (fun _ _ h => by cases h) (fun _ h => by cases h) (fun _ h => by cases h) b hk,
   fun a es {h K} hk => find_flat hu (fun a b => by show (if k = k then some (a == b) else none) = _; rw [if_pos rfl]; congr 1) a es hk⟩
theorem strKeyT (hu : P.underlying kt = some .string) : KeyT P kt strE :=
  ⟨fun a => by show (bs a == bs a) = true; rw [bs_beq]; simp, fun b a {h K} hk => check_flat hu (fun _ _ h => by cases h) (fun _ h => by cases h) (fun _ h => by cases h) b hk,
   fun a es {h K} hk => find_flat hu (fun a b => by show some (bs a == bs b) = _; rw [bs_beq]; congr 1; rw [Bool.eq_iff_iff]; simp) a es hk⟩
end
/-! ### Maps of lists of records -/
section
variable {κ : Type} [DecidableEq κ]
theorem getL_none {m : List (κ × Value)} {a : κ} (h : getL m a = none) : ∀ e ∈ m, e.1 ≠ a := fun e he hk => by
  have : (getL m a).isSome = true := get_some.2 ⟨e, he, hk⟩
  rw [h] at this; cases this
theorem getL_some {m : List (κ × Value)} {a : κ} {v : Value} (h : getL m a = some v) : (a, v) ∈ m := by
  unfold getL at h
  rw [Option.map_eq_some_iff] at h
  obtain ⟨e, h1, h2⟩ := h
  have h3 := List.mem_of_find?_eq_some h1
  have h4 := List.find?_some h1
  rw [decide_eq_true_eq] at h4
  rw [← h4, ← h2]; exact h3
theorem getL_of {m : List (κ × Value)} (nd : (m.map (·.1)).Nodup) {e : κ × Value} (he : e ∈ m) : getL m e.1 = some e.2 := by
  cases h : getL m e.1 with
  | none => exact absurd rfl (getL_none h e he)
  | some v =>
    have hv := getL_some h
    obtain ⟨i, hi, ei⟩ := List.getElem_of_mem hv
    obtain ⟨j, hj, ej⟩ := List.getElem_of_mem he
    have hij : i = j := (List.getElem_inj (h₀ := by simpa using hi) (h₁ := by simpa using hj) nd).1 (by simp only [List.getElem_map]; rw [ei, ej])
    subst hij
    rw [ei] at ej
    rw [← ej]
theorem del_map {α : Type} (kf : α → κ) (vf : α → Value) (S : List α) (a : κ) : delL (S.map fun c => (kf c, vf c)) a = (S.filter fun c => decide (kf c ≠ a)).map fun c => (kf c, vf c) := by
  unfold delL; rw [List.filter_map]; rfl
theorem put_new {m : List (κ × Value)} {a : κ} (h : ∀ e ∈ m, e.1 ≠ a) (v : Value) : putL m a v = m ++ [(a, v)] := by
  have hs : ¬ (getL m a).isSome = true := fun hh => by
    obtain ⟨e, he, ek⟩ := get_some.1 hh
    exact h e he ek
  unfold putL
  rw [if_neg hs]
end
end Go.Proofs.Ythnheldoklgceaa
