/-
  Equality of flat values, asked inside of other operations.
-/
import Derived.Test.YthnheldoklgceaaMapK
namespace Go.Proofs.Ythnheldoklgceaa
set_option linter.unusedSimpArgs false
set_option linter.unusedVariables false
set_option maxRecDepth 20000
open Go
section
variable {P : Program}
/-- A computation that asks nothing but the program, and its answer. -/
def Qt (P : Program) {α : Type} : Sem α → α → Prop
  | .pure a, x => a = x
  | .program k, x => Qt P (k P) x
  | _, _ => False
theorem Qt.wp {α : Type} {s : Sem α} {x : α} {h : Heap} {K : α → Heap → Prop} (q : Qt P s x) (hk : K x h) : wpH P s K h := by
  induction s with
  | pure y => simp only [Qt] at q; subst q; exact hk
  | program k ih => exact ih P q
  | _ => simp [Qt] at q
theorem qtBind {α β : Type} {s : Sem α} {f : α → Sem β} {a : α} {b : β} (hs : Qt P s a) (hf : Qt P (f a) b) : Qt P (s.bind f) b := by
  induction s with
  | pure y => simp only [Qt] at hs; subst hs; exact hf
  | program k ih => exact ih P hs
  | _ => simp [Qt] at hs
theorem underlying_qt {t : TypeId} {d : TypeDesc} (hu : P.underlying t = some d) : Qt P (underlying t) d := by
  unfold underlying program; simp only [bind, Sem.bind, Qt, hu]; rfl
theorem info_qt {t : TypeId} {i : TypeInfo} (hu : P.info? t = some i) : Qt P (typeInfo t) i := by
  unfold typeInfo program; simp only [bind, Sem.bind, Qt, hu]; rfl
theorem eqSIn_qt {d : TypeDesc} {n : Nat} {t : TypeId} {x y : Value} {b : Bool} (hu : P.underlying t = some d) (he : eqS d x y = some b) : Qt P (Op.equalIn (n + 1) t x y) b := by
  unfold Op.equalIn; simp only [bind]
  refine qtBind (underlying_qt hu) ?_
  unfold eqS at he
  split at he <;> first | (simp at he; done) | skip
  · simp only [Option.some.injEq] at he; subst he; rfl
  · split at he
    · rename_i hk; simp only [Option.some.injEq] at he; subst he; simp only [hk, if_true]; rfl
    · simp at he
  · simp only [Option.some.injEq] at he; subst he; rfl
  · rename_i p; simp only [Option.some.injEq] at he; subst he; cases p <;> rfl
  · rename_i p hp; simp only [Option.some.injEq] at he; subst he; rfl
  · rename_i a n c n' c'; simp only [Option.some.injEq] at he; subst he; cases a <;> rfl
  · rename_i a n c n' c' hp; simp only [Option.some.injEq] at he; subst he; rfl
  · rename_i r; simp only [Option.some.injEq] at he; subst he; cases r <;> rfl
  · rename_i r hp; simp only [Option.some.injEq] at he; subst he; rfl
  · simp only [Option.some.injEq] at he; subst he; rfl
  · simp only [Option.some.injEq] at he; subst he; rfl
theorem isAgg_qt {t : TypeId} (h : (P.underlying t).isSome) : Qt P (isAgg t) (isAggB P t) := by
  obtain ⟨i, hi⟩ := Option.isSome_iff_exists.1 h
  unfold isAgg; simp only [bind]; refine qtBind (underlying_qt hi) ?_
  unfold isAggB; rw [hi]; cases i <;> rfl
theorem size_qt {t : TypeId} (hu : (P.info? t).isSome) : Qt P (sizeOf t) (sizeB P t) := by
  obtain ⟨i, hi⟩ := Option.isSome_iff_exists.1 hu
  unfold sizeOf; simp only [bind]; refine qtBind (info_qt hi) ?_
  simp [sizeB, hi, pure, Qt]
theorem part_qt {t : TypeId} {cs : Array Value} {off : Nat} {v : Value} (h : partV P t cs off = some v) : Qt P (part t cs off) v := by
  unfold partV at h
  split at h
  case isFalse => cases h
  rename_i hu
  unfold part; simp only [bind]
  refine qtBind (isAgg_qt hu) ?_
  split at h
  · rename_i ha; rw [ha]; simp only [if_true]
    refine qtBind (size_qt (underlying_info hu)) ?_
    simp only [Option.some.injEq] at h; subst h; rfl
  · rename_i ha; simp only [ha]
    simp only [Bool.false_eq_true, if_false, h]; rfl
theorem eqFs_qt {rec : TypeId → Value → Value → Option Bool} {eqn : TypeId → Value → Value → Sem Bool} (hrec : ∀ t x y b, rec t x y = some b → Qt P (eqn t x y) b) {xs ys : Array Value} :
    ∀ (fs : List Field) {b : Bool}, eqFs P rec xs ys fs = some b →
    Qt P (forIn fs ((none, ()) : Option Bool × Unit) fun f __s =>
                if f.name ≠ "_" then
                  (part f.type xs f.offset).bind fun a =>
                    (part f.type ys f.offset).bind fun b =>
                      (eqn f.type a b).bind fun r =>
                        if (!r) = true then (pure (ForInStep.done (some false, ())) : Sem _)
                        else pure (ForInStep.yield (none, ()))
                else pure (ForInStep.yield (none, ()))) (if b then (none, ()) else (some false, ()))
  | [], b, h => by simp [eqFs] at h; subst h; rfl
  | f :: fs, b, h => by
    rw [List.forIn_cons]
    unfold eqFs at h
    split at h
    · rename_i hn
      simp only [hn, ne_eq, not_true, if_false, bind, pure, Sem.bind]
      exact eqFs_qt hrec fs h
    · rename_i hn
      split at h
      case h_2 => cases h
      rename_i a c ha hc
      split at h
      case h_2 => cases h
      rename_i p q hp hq
      simp only [Option.some.injEq] at h
      simp only [hn, ne_eq, not_false_iff, if_true, bind]
      refine qtBind (a := if p then ForInStep.yield (none, ()) else ForInStep.done (some false, ())) ?_ ?_
      · refine qtBind (part_qt ha) (qtBind (part_qt hc) (qtBind (hrec _ _ _ _ hp) ?_))
        cases p <;> rfl
      · cases p
        · simp only [Bool.false_and] at h; subst h; rfl
        · simp only [Bool.true_and] at h; subst h
          exact eqFs_qt hrec fs hq
theorem eqEs_qt {el : TypeId} {n : Nat} {rec : Value → Value → Option Bool} {eqn : Value → Value → Sem Bool} (hrec : ∀ x y b, rec x y = some b → Qt P (eqn x y) b) {xs ys : Array Value} :
    ∀ (is : List Nat) {b : Bool}, eqEs P rec el n xs ys is = some b →
    Qt P (forIn is ((none, ()) : Option Bool × Unit) fun i __s =>
                  (part el xs (i * n)).bind fun a =>
                    (part el ys (i * n)).bind fun b =>
                      (eqn a b).bind fun r =>
                        if (!r) = true then (pure (ForInStep.done (some false, ())) : Sem _)
                        else pure (ForInStep.yield (none, ()))) (if b then (none, ()) else (some false, ()))
  | [], b, h => by simp [eqEs] at h; subst h; rfl
  | i :: is, b, h => by
    rw [List.forIn_cons]
    unfold eqEs at h
    split at h
    case h_2 => cases h
    rename_i a c ha hc
    split at h
    case h_2 => cases h
    rename_i p q hp hq
    simp only [Option.some.injEq] at h
    simp only [bind]
    refine qtBind (a := if p then ForInStep.yield (none, ()) else ForInStep.done (some false, ())) ?_ ?_
    · refine qtBind (part_qt ha) (qtBind (part_qt hc) (qtBind (hrec _ _ _ hp) ?_))
      cases p <;> rfl
    · cases p
      · simp only [Bool.false_and] at h; subst h; rfl
      · simp only [Bool.true_and] at h; subst h
        exact eqEs_qt hrec is hq
theorem eqB_qt : ∀ (d : Nat) (t : TypeId) (x y : Value) (b : Bool), eqB P d t x y = some b → Qt P (Op.equalIn d t x y) b
  | 0, _, _, _, _, h => by simp [eqB] at h
  | d + 1, t, x, y, b, h => by
    unfold eqB at h
    split at h
    · rename_i fs hu
      split at h
      case h_2 => cases h
      rename_i xs ys
      split at h
      · cases h
      rename_i hs
      unfold Op.equalIn; simp only [bind]
      refine qtBind (underlying_qt hu) ?_
      simp only
      have hp : Qt P program P := rfl
      refine qtBind hp ?_
      simp only [hs]
      simp only [Bool.false_eq_true, if_false]
      rw [← Array.forIn_toList]
      refine qtBind (eqFs_qt (fun t x y b hb => eqB_qt d t x y b hb) fs.toList h) ?_
      cases b <;> rfl
    · rename_i len el hu
      split at h
      case h_2 => cases h
      rename_i xs ys
      split at h
      case isFalse => cases h
      rename_i hs
      unfold Op.equalIn; simp only [bind]
      refine qtBind (underlying_qt hu) ?_
      simp only
      refine qtBind (size_qt hs) ?_
      rw [Std.Legacy.Range.forIn_eq_forIn_range']
      simp only [Std.Legacy.Range.size, Nat.sub_zero, Nat.add_sub_cancel, Nat.div_one]
      refine qtBind (eqEs_qt (fun x y b hb => eqB_qt d el x y b hb) _ h) ?_
      cases b <;> rfl
    · rename_i td hns hu
      exact eqSIn_qt hu h
    · cases h
theorem zero_mk {et : TypeId} {i : TypeInfo} {z : Value} (hi : P.info? et = some i) (hz : i.zero = some z) {h : Heap} {K : Value → Heap → Prop} (hk : K z h) : wpH P (zeroValue et) K h := by
  unfold zeroValue; simp only [bind]; rw [wpH_bind]; refine wpH_info hi ?_
  rw [hz]; exact hk
def qtB (P : Program) : Sem Unit → Bool
  | .pure _ => true
  | .program k => qtB P (k P)
  | _ => false
theorem qt_of_B {s : Sem Unit} (h : qtB P s = true) : Qt P s () := by
  induction s with
  | pure y => rfl
  | program k ih => exact ih P h
  | _ => cases h
/-- A check that asks nothing. -/
theorem wpH_check {s : Sem Unit} (h : qtB P s = true) {hp : Heap} {K : Unit → Heap → Prop} (hk : K () hp) : wpH P s K hp := Qt.wp (qt_of_B h) hk
/-- Flat values are the same as themselves, bit by bit. -/
def scalarV : Value → Bool
  | .bool _ | .int _ _ | .string _ => true
  | _ => false
theorem same_scalar {v : Value} (h : scalarV v = true) (n : Nat) : Instr.sameBits n v v = true := by
  cases v <;> first | (simp [scalarV] at h; done) | (simp [Instr.sameBits]; done) | skip
  rename_i s
  obtain ⟨l, rfl⟩ := bs_surj s
  simp [Instr.sameBits, bs_beq]
theorem same_agg {vs : List Value} (h : vs.all scalarV = true) (n : Nat) : Instr.sameBits (n + 1) (.agg vs.toArray) (.agg vs.toArray) = true := by
  simp only [Instr.sameBits, beq_self_eq_true, Bool.true_and, List.all_eq_true]
  intro x hx
  obtain ⟨a, b⟩ := x
  have := List.of_mem_zip hx
  obtain ⟨i, hi, e⟩ := List.getElem_of_mem hx
  rw [List.getElem_zip] at e
  obtain ⟨rfl, rfl⟩ := Prod.mk.inj e
  exact same_scalar (List.all_eq_true.1 h _ this.1) n
/-- Equality of two values of a type, inside of another operation. -/
theorem wpH_equal {t : TypeId} {x y : Value} {b : Bool} (e : eqB P 10000 t x y = some b) {h : Heap} {K : Bool → Heap → Prop} (hk : K b h) : wpH P (Op.equal t x y) K h := (eqB_qt 10000 t x y b e).wp hk
end
end Go.Proofs.Ythnheldoklgceaa
