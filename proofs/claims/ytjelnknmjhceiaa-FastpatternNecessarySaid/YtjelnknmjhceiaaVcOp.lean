/-
  The verification condition of one operation, and of a region that is run in its text's order.
-/
import Derived.Test.YtjelnknmjhceiaaVc
namespace Go.Proofs.Ytjelnknmjhceiaa
set_option linter.unusedSimpArgs false
set_option linter.unusedVariables false
set_option maxRecDepth 20000
open Go

/-! ### Slots -/
abbrev Env := Nat → Value
def upd (e : Env) (d : Nat) (v : Value) : Env := fun t => if t = d then v else e t
def eput (N : Nat) (e : Env) (d : Option Tmp) (v : Value) : Env :=
  match d with
  | none => e
  | some d => if d < N then upd e d v else e
def eev (e : Env) : Operand → Value
  | .tmp t => e t
  | .const v => v
  | .global g => .pointer (some ⟨g, 0, none⟩)
  | .func f => .func (.func f) #[] #[]
def aenv (a : Act) : Env := fun t => a.tmps.getD t undef
theorem aeval_eq (a : Act) : a.eval = eev (aenv a) := by funext x; cases x <;> rfl
theorem upd_self {e : Env} {d : Nat} {v : Value} (h : e d = v) : upd e d v = e := by
  funext t; unfold upd; split
  · rename_i ht; rw [ht, h]
  · rfl
theorem aenv_put (a : Act) (d : Option Tmp) (v : Value) : aenv (a.put d v) = eput a.tmps.size (aenv a) d v := by
  cases d with
  | none => rfl
  | some d =>
    funext t
    simp only [aenv, Act.put, eput]
    by_cases hd : d < a.tmps.size
    · simp only [hd, if_true, upd]
      by_cases ht : t = d
      · subst ht; simp [hd]
      · rw [if_neg ht]; simp [aenv, Array.getElem?_setIfInBounds_ne (Ne.symm ht)]
    · simp [Array.setIfInBounds, hd, aenv]
theorem size_put (a : Act) (d : Option Tmp) (v : Value) : (a.put d v).tmps.size = a.tmps.size := by
  cases d <;> simp [Act.put]
theorem defers_put (a : Act) (d : Option Tmp) (v : Value) : (a.put d v).defers = a.defers := by
  cases d <;> rfl

/-! ### Small words -/
def nn (p : Option Addr) (K : Addr → Prop) : Prop :=
  match p with
  | some a => K a
  | none => False
def bAt (s : ByteArray) (n : Int) : Int := ((s.data[n.toNat]?).getD 0).toNat
def idxS (s : ByteArray) (n : Int) (K : Int → Prop) : Prop := 0 ≤ n ∧ n < (s.size : Int) ∧ K (bAt s n)
def idxA (n : Int) (len : Nat) (K : Prop) : Prop := 0 ≤ n ∧ n < (len : Int) ∧ K
def sliceStr (s : ByteArray) : Option Int → Option Int → (ByteArray → Prop) → Prop
  | some l, some u, K => 0 ≤ l ∧ l ≤ u ∧ u ≤ (s.size : Int) ∧ K (s.extract l.toNat u.toNat)
  | some l, none, K => 0 ≤ l ∧ l ≤ (s.size : Int) ∧ K (s.extract l.toNat s.size)
  | none, some u, K => 0 ≤ u ∧ u ≤ (s.size : Int) ∧ K (s.extract 0 u.toNat)
  | none, none, K => K (s.extract 0 s.size)
def sliceSl (sz : Nat) (a : Option Addr) (n c : Nat) : Option Int → Option Int → Option Int → (Option Addr → Nat → Nat → Prop) → Prop
  | none, none, none, K => K a n c
  | none, some u, none, K => 0 ≤ u ∧ u ≤ (c : Int) ∧ K a u.toNat c
  | some l, none, none, K => 0 ≤ l ∧ l ≤ (n : Int) ∧ K (if c = l.toNat then a else a.map (·.add (l.toNat * sz))) (n - l.toNat) (c - l.toNat)
  | some l, some u, none, K => 0 ≤ l ∧ l ≤ u ∧ u ≤ (c : Int) ∧ K (if c = l.toNat then a else a.map (·.add (l.toNat * sz))) (u.toNat - l.toNat) (c - l.toNat)
  | none, some u, some m, K => 0 ≤ u ∧ u ≤ m ∧ m ≤ (c : Int) ∧ K a u.toNat m.toNat
  | some l, some u, some m, K => 0 ≤ l ∧ l ≤ u ∧ u ≤ m ∧ m ≤ (c : Int) ∧ K (if m.toNat = l.toNat then a else a.map (·.add (l.toNat * sz))) (u.toNat - l.toNat) (m.toNat - l.toNat)
  | _, none, some _, _ => False
def oint : Option Value → Option (Option Int)
  | none => some none
  | some (.int _ n) => some (some n)
  | _ => none
/-- Equality of two values of a type, where it is told by their scalars. -/
def eqS : TypeDesc → Value → Value → Option Bool
  | .bool, .bool a, .bool b => some (a == b)
  | .int _, .int k a, .int k' b => if k = k' then some (a == b) else none
  | .string, .string a, .string b => some (a == b)
  | .pointer _, .pointer p, .pointer none => some p.isNone
  | .pointer _, .pointer none, .pointer p => some p.isNone
  | .slice _, .slice a _ _, .slice none _ _ => some a.isNone
  | .slice _, .slice none _ _, .slice a _ _ => some a.isNone
  | .map _ _, .map r, .map none => some r.isNone
  | .map _ _, .map none, .map r => some r.isNone
  | .func _ _ _, .func _ _ _, .nilFunc => some false
  | .func _ _ _, .nilFunc, .nilFunc => some true
  | _, _, _ => none

def partV (P : Program) (t : TypeId) (cs : Array Value) (off : Nat) : Option Value :=
  if (P.underlying t).isSome then (if isAggB P t then some (.agg (cs.extract off (off + sizeB P t))) else cs[off]?) else none
def eqFs (P : Program) (rec : TypeId → Value → Value → Option Bool) (xs ys : Array Value) : List Field → Option Bool
  | [] => some true
  | f :: fs =>
    if f.name = "_" then eqFs P rec xs ys fs else
    match partV P f.type xs f.offset, partV P f.type ys f.offset with
    | some a, some b =>
      match rec f.type a b, eqFs P rec xs ys fs with
      | some p, some q => some (p && q)
      | _, _ => none
    | _, _ => none
def eqEs (P : Program) (rec : Value → Value → Option Bool) (el : TypeId) (n : Nat) (xs ys : Array Value) : List Nat → Option Bool
  | [] => some true
  | i :: is =>
    match partV P el xs (i * n), partV P el ys (i * n) with
    | some a, some b =>
      match rec a b, eqEs P rec el n xs ys is with
      | some p, some q => some (p && q)
      | _, _ => none
    | _, _ => none
/-- Equality of structs, field by field, and of arrays. -/
def eqB (P : Program) : Nat → TypeId → Value → Value → Option Bool
  | 0, _, _, _ => none
  | d + 1, t, x, y =>
    match P.underlying t with
    | some (.struct fs) =>
      match x, y with
      | .agg xs, .agg ys => if P.stoodInHeld t = true then none else eqFs P (eqB P d) xs ys fs.toList
      | _, _ => none
    | some (.array len el) =>
      match x, y with
      | .agg xs, .agg ys => if (P.info? el).isSome = true then eqEs P (eqB P d el) el (sizeB P el) xs ys (List.range' 0 len) else none
      | _, _ => none
    | some td => eqS td x y
    | none => none
/-- Equality of pointers: to nil, or of a pointer to itself. -/
def ptrQ (p q : Option Addr) (K : Bool → Prop) : Prop :=
  match q with
  | none => K p.isNone
  | some b => match p with
    | none => K false
    | some a => a = b ∧ K true
/-! ### Operations that leave memory alone -/
def ovalB (op : BinOp) : Bool := match op with | .eql | .neq => true | _ => false
def vcBin (P : Program) (o : Oper) (e : Env) (op : BinOp) (t : TypeId) (x y : Operand) (K : Value → Prop) : Prop :=
  match op, eev e x, eev e y with
  | .quo, .int k a, .int k' b => if k = k' then b ≠ 0 ∧ K (.int k (k.wrap (a.tdiv b))) else False
  | .rem, .int k a, .int k' b => if k = k' then b ≠ 0 ∧ K (.int k (a.tmod b)) else False
  | .shl, .int k a, .int _ b => 0 ≤ b ∧ K (.int k (k.wrap (a * 2 ^ (min b.toNat k.bits))))
  | .shr, .int k a, .int _ b => 0 ≤ b ∧ K (.int k (a.fdiv (2 ^ (min b.toNat k.bits))))
  | .add, .string a, .string b => ((a.size + b.size : Nat) : Int) ≤ IntKind.i64.max ∧ K (.string (a ++ b))
  | .eql, .pointer p, .pointer q =>
    match P.underlying t with
    | some (.pointer el) => if (P.info? el).isSome = true then ptrQ p q fun b => K (.bool b) else False
    | some d => match eqS d (eev e x) (eev e y) with | some b => K (.bool b) | none => False
    | none => False
  | .neq, .pointer p, .pointer q =>
    match P.underlying t with
    | some (.pointer el) => if (P.info? el).isSome = true then ptrQ p q fun b => K (.bool (!b)) else False
    | some d => match eqS d (eev e x) (eev e y) with | some b => K (.bool (!b)) | none => False
    | none => False
  | .eql, .slice p _ _, .slice q _ _ =>
    match P.underlying t with
    | some d => match eqS d (eev e x) (eev e y) with | some b => K (.bool b) | none => False
    | none => False
  | .neq, .slice p _ _, .slice q _ _ =>
    match P.underlying t with
    | some d => match eqS d (eev e x) (eev e y) with | some b => K (.bool (!b)) | none => False
    | none => False
  | .eql, .map p, .map q =>
    match P.underlying t with
    | some d => match eqS d (eev e x) (eev e y) with | some b => K (.bool b) | none => False
    | none => False
  | .neq, .map p, .map q =>
    match P.underlying t with
    | some d => match eqS d (eev e x) (eev e y) with | some b => K (.bool (!b)) | none => False
    | none => False
  | .eql, .agg _, .agg _ => if P.eqGuardType P.depth t = false then (match eqB P Op.maxDepth t (eev e x) (eev e y) with | some b => K (.bool b) | none => False) else False
  | .neq, .agg _, .agg _ => if P.eqGuardType P.depth t = false then (match eqB P Op.maxDepth t (eev e x) (eev e y) with | some b => K (.bool (!b)) | none => False) else False
  | _, _, _ => match quietV P (execOp (eev e) o) with | some v => K v | none => False
def vcQ (P : Program) (o : Oper) (e : Env) (h : Heap) (K : Value → Prop) : Prop :=
  match o.op with
  | .load t x =>
    match eev e x with
    | .pointer (some a) =>
      if isAggB P t then (if (kinds P 20 t).length = sizeB P t then ldN h a (kinds P 20 t) 0 fun vs => K (.agg vs.toArray) else False)
      else (if (P.underlying t).isSome then ld1 h a (skOf P t) K else False)
    | _ => False
  | .nilCheck x =>
    match eev e x with
    | .pointer p => nn p fun a => K (.pointer (some a))
    | _ => False
  | .index t x i =>
    match P.underlying t, eev e x, eev e i with
    | some .string, .string s, .int _ n => idxS s n fun c => K (.int .u8 c)
    | some (.array len el), .agg cs, .int _ n =>
      if isAggB P el = false ∧ sizeB P el = 1 ∧ (P.underlying el).isSome then idxA n len (∃ v, cs[n.toNat]? = some v ∧ ex1 (skOf P el) fun v' => v = v' ∧ K v') else False
    | _, _, _ => False
  | .indexAddr t x i =>
    match P.underlying t, eev e x, eev e i with
    | some (.slice el), .slice b len _, .int _ n => if (P.info? el).isSome then idxA n len (nn b fun a => K (.pointer (some (a.add (n.toNat * sizeB P el))))) else False
    | some (.array len el), .pointer (some a), .int _ n => if (P.info? el).isSome then idxA n len (K (.pointer (some (a.add (n.toNat * sizeB P el))))) else False
    | _, _, _ => False
  | .slice t x lo hi mx =>
    match P.underlying t, eev e x, oint (lo.map (eev e)), oint (hi.map (eev e)), oint (mx.map (eev e)) with
    | some .string, .string s, some l, some u, some none => sliceStr s l u fun r => K (.string r)
    | some (.slice el), .slice a n c, some l, some u, some m => if (P.info? el).isSome then sliceSl (sizeB P el) a n c l u m fun a n c => K (.slice a n c) else False
    | some (.array k el), .pointer (some a), some l, some u, some m => if (P.info? el).isSome then sliceSl (sizeB P el) (some a) k k l u m fun a n c => K (.slice a n c) else False
    | _, _, _, _, _ => False
  | .pick c a b =>
    match eev e c, eev e a, eev e b with
    | .bool c, .bool x, .bool y => K (.bool (bif c then x else y))
    | .bool c, x, y => if c = true then K x else K y
    | _, _, _ => False
  | .binOp op t x y _ => vcBin P o e op t x y K
  | .extract _ _ => match quietV P (execOp (eev e) o) with | some v => dTy P o.type v K | none => False
  | _ => match quietV P (execOp (eev e) o) with | some v => K v | none => False
def isQuiet (P : Program) (o : Op) : Bool :=
  match o with
  | .move _ | .assign _ | .pick .. | .nilCheck _ | .load .. | .index .. | .indexAddr .. | .slice .. | .fieldAddr .. | .field .. | .binOp .. | .unOp .. | .extract ..
  | .build .. | .makeFunc .. | .makeInterface .. => true
  | .convert s d _ => (match P.underlying s, P.underlying d with | some (.int _), some (.int _) => true | some .string, some .string => true | _, _ => false)
  | .call { callee := .builtin b, argTypes, .. } => (match b with | .len => (match (argTypes[0]?).bind P.underlying with | some (.map _ _) => false | _ => true) | .cap | .min | .max => true | _ => false)
  | _ => false

section
variable {P : Program}
/-- 'o' yields 'v' in every world over this heap, and leaves that world as it is. -/
def QOk (P : Program) (o : Oper) (e : Env) (h : Heap) (v : Value) : Prop := ∀ w : World, w.heap = h → (execOp (eev e) o).run P w = .ok (.value v) w
/-- 'o' yields 'v' in every world. -/
def QAll (P : Program) (o : Oper) (e : Env) (v : Value) : Prop := ∀ w : World, (execOp (eev e) o).run P w = .ok (.value v) w

theorem runBind {α β : Type} {s : Sem α} {f : α → Sem β} {w w' : World} {a : α} (h : s.run P w = .ok a w') : (s.bind f).run P w = (f a).run P w' := by
  induction s generalizing w with
  | pure x => simp only [Sem.run, Result.ok.injEq] at h; obtain ⟨rfl, rfl⟩ := h; rfl
  | load m a k ih =>
    simp only [Sem.bind, Sem.run] at h ⊢
    split at h
    · exact ih _ h
    · split at h
      · exact ih _ h
      · exact (nomatch h)
  | store m a v k ih =>
    cases v
    case agg => exact (nomatch h)
    case tuple => exact (nomatch h)
    all_goals
      simp only [Sem.bind, Sem.run] at h ⊢
      split at h
      · split at h
        · exact (nomatch h)
        · rename_i hf; simp only [hf]; exact ih h
      · split at h
        · exact ih h
        · exact (nomatch h)
  | new o k ih => exact ih _ h
  | shape r k ih => exact ih _ h
  | freeze a n k ih => exact ih h
  | frozen a k ih => exact ih _ h
  | getObj r k ih =>
    simp only [Sem.bind, Sem.run] at h ⊢
    split at h
    · exact (nomatch h)
    · exact ih _ h
    · exact (nomatch h)
  | setObj r o k ih =>
    simp only [Sem.bind, Sem.run] at h ⊢
    split at h
    · exact (nomatch h)
    · exact ih h
    · exact (nomatch h)
  | choose q k ih =>
    simp only [Sem.bind, Sem.run] at h ⊢
    split at h
    · rename_i hq; simp only [hq, if_true]; exact ih _ h
    · rename_i hq; simp only [hq]; exact ih _ h
  | sys c k ih => exact ih _ h
  | program k ih => exact ih _ h
  | mark m k ih => exact ih h
  | halt x => exact (nomatch h)

theorem run_value {s : Sem Value} {w : World} {v : Value} (h : s.run P w = .ok v w) : (do pure (Next.value (← s)) : Sem Next).run P w = .ok (.value v) w :=
  runBind h
theorem underlying_run {t : TypeId} {d : TypeDesc} (h : P.underlying t = some d) (w : World) : (underlying t).run P w = .ok d w := by
  unfold underlying; simp only [bind, program, Sem.bind, Sem.run, h]; rfl
theorem info_run {t : TypeId} {d : TypeInfo} (h : P.info? t = some d) (w : World) : (typeInfo t).run P w = .ok d w := by
  unfold typeInfo; simp only [bind, program, Sem.bind, Sem.run, h]; rfl
theorem size_run {t : TypeId} (h : (P.info? t).isSome) (w : World) : (sizeOf t).run P w = .ok (sizeB P t) w := by
  obtain ⟨i, hi⟩ := Option.isSome_iff_exists.1 h
  unfold sizeOf; simp only [bind]; rw [runBind (info_run hi w)]; simp [sizeB, hi, pure, Sem.run]
theorem isAgg_run {t : TypeId} (h : (P.underlying t).isSome) (w : World) : (isAgg t).run P w = .ok (isAggB P t) w := by
  obtain ⟨i, hi⟩ := Option.isSome_iff_exists.1 h
  unfold isAgg; simp only [bind]; rw [runBind (underlying_run hi w)]
  unfold isAggB; rw [hi]; cases i <;> rfl
theorem load_run {w : World} {a : Addr} {v : Value} (h : hcell w.heap a = some v) : (load a).run P w = .ok v w := by
  have h' : w.cell? a = some v := h
  simp only [load, Sem.run, h']
theorem loadCellsFrom_run {w : World} {a : Addr} : ∀ (vs : List Value) (i : Nat) (acc : Array Value), (∀ j (hj : j < vs.length), hcell w.heap (a.add (i + j)) = some vs[j]) →
    (loadCellsFrom a i vs.length acc).run P w = .ok (acc ++ vs.toArray) w
  | [], i, acc, _ => by simp [loadCellsFrom, pure, Sem.run]
  | v :: vs, i, acc, h => by
    have h0 := h 0 (by simp)
    simp only [Nat.add_zero, List.getElem_cons_zero] at h0
    simp only [List.length_cons, loadCellsFrom, bind]
    rw [runBind (load_run h0), loadCellsFrom_run vs (i + 1) (acc.push v) (fun j hj => by
      have := h (j + 1) (by simpa using hj)
      simpa [Nat.add_assoc, Nat.add_comm 1 j] using this)]
    simp
theorem loadCells_run {w : World} {a : Addr} {vs : List Value} {n : Nat} (hn : vs.length = n) (h : ∀ j (hj : j < vs.length), hcell w.heap (a.add (0 + j)) = some vs[j]) :
    (loadCells a n).run P w = .ok vs.toArray w := by
  subst hn; unfold loadCells; rw [loadCellsFrom_run vs 0 #[] h]; simp
theorem underlying_info {t : TypeId} (h : (P.underlying t).isSome) : (P.info? t).isSome := by
  unfold Program.underlying at h
  cases hi : P.info? t with
  | none => simp [hi] at h
  | some i => rfl
theorem addr_add_zero (a : Addr) : a.add 0 = a := rfl
theorem addr_map_add_zero (a : Option Addr) : a.map (·.add 0) = a := by cases a <;> rfl
end
end Go.Proofs.Ytjelnknmjhceiaa
