/-
  Operations that make or write memory, calls, and a region that is run in its text's order.
-/
import Derived.Test.YtjelnknmjhceiaaVcBin
namespace Go.Proofs.Ytjelnknmjhceiaa
set_option linter.unusedSimpArgs false
set_option linter.unusedVariables false
set_option maxRecDepth 20000
open Go

section
variable [Gh]
/-- What stands behind a call: a value, or a function that is entered. -/
def CallD (P : Program) (s : Sem Next) (h : Heap) (K : Value → Heap → Prop) : Prop :=
  ∀ w : World, w.heap = h → Sm w → match s.run P w with
    | .ok (.value v) w' => K v w'.heap ∧ Sm w'
    | .ok (.enter f args) w' => Calls P f args w' fun e w'' => ∃ v, e = .returned v ∧ K v w''.heap ∧ Sm w''
    | _ => False
def CallT (P : Program) (f : FuncId) (args : Array Value) (h : Heap) (K : Value → Heap → Prop) : Prop := CallD P (callFunc f args) h K
def CallV (P : Program) (v : Value) (args : Array Value) (h : Heap) (K : Value → Heap → Prop) : Prop :=
  CallD P (do let d ← Deferred.ofValue v args; invoke d.target d.args) h K
/-- A method of an interface's value. -/
def CallI (P : Program) (v : Value) (name : String) (args : Array Value) (h : Heap) (K : Value → Heap → Prop) : Prop := CallD P (callMethod v name args) h K
theorem CallD.mono {P : Program} {s : Sem Next} {h : Heap} {K K' : Value → Heap → Prop} (hc : CallD P s h K) (hk : ∀ v h', K v h' → K' v h') : CallD P s h K' := by
  intro w hw hs
  have := hc w hw hs
  revert this
  split
  · exact fun h => ⟨hk _ _ h.1, h.2⟩
  · exact fun hc => hc.mono fun e w'' ⟨v, he, hv, hs⟩ => ⟨v, he, hk _ _ hv, hs⟩
  · exact id
theorem CallT.mono {P : Program} {f : FuncId} {args : Array Value} {h : Heap} {K K' : Value → Heap → Prop} (hc : CallT P f args h K) (hk : ∀ v h', K v h' → K' v h') : CallT P f args h K' :=
  CallD.mono hc hk
theorem CallV.mono {P : Program} {f : Value} {args : Array Value} {h : Heap} {K K' : Value → Heap → Prop} (hc : CallV P f args h K) (hk : ∀ v h', K v h' → K' v h') : CallV P f args h K' :=
  CallD.mono hc hk
theorem callV_func {P : Program} {g : FuncId} {first cap args : Array Value} {h : Heap} {K : Value → Heap → Prop} :
    CallV P (.func (.func g) first cap) args h K ↔ CallT P g (first ++ args ++ cap) h K := Iff.rfl

end
/-- Some value of a type, its shape laid open. -/
def tyV (P : Program) (t : TypeId) (K : Value → Prop) : Prop :=
  if isAggB P t then exN (kinds P 20 t) fun vs => K (.agg vs.toArray) else ex1 (skOf P t) K
theorem tyV_ex {P : Program} {t : TypeId} {K : Value → Prop} (h : tyV P t K) : ∃ v, K v := by
  unfold tyV at h; split at h
  · obtain ⟨vs, _, h⟩ := exN_ex h; exact ⟨_, h⟩
  · exact ex1_ex h
def tyVs (P : Program) : List TypeId → (List Value → Prop) → Prop
  | [], K => K []
  | t :: ts, K => tyV P t fun v => tyVs P ts fun vs => K (v :: vs)
theorem tyVs_ex {P : Program} : ∀ {ts : List TypeId} {K : List Value → Prop}, tyVs P ts K → ∃ vs, K vs
  | [], _, h => ⟨[], h⟩
  | _ :: _, _, h => by obtain ⟨v, h⟩ := tyV_ex h; obtain ⟨vs, h⟩ := tyVs_ex h; exact ⟨v :: vs, h⟩
def asT (P : Program) (t : TypeId) (v : Value) (K : Value → Prop) : Prop :=
  match P.underlying t with
  | some (.tuple ts) => tyVs P ts.toList fun vs => v = .tuple vs.toArray ∧ K (.tuple vs.toArray)
  | _ => tyV P t fun v' => v = v' ∧ K v'
theorem asT_elim {P : Program} {t : TypeId} {v : Value} {K : Value → Prop} (h : asT P t v K) : K v := by
  unfold asT at h; split at h
  · obtain ⟨vs, hv, h2⟩ := tyVs_ex h; subst hv; exact h2
  · obtain ⟨v', hv, h2⟩ := tyV_ex h; subst hv; exact h2
/-- What a type's assertion yields. -/
def asTA (P : Program) (t : TypeId) (ok : Bool) (v : Value) (K : Value → Prop) : Prop :=
  match ok with
  | true => tyV P t fun w => ∃ b : Bool, v = .tuple #[w, .bool b] ∧ K (.tuple #[w, .bool b])
  | false => tyV P t fun w => v = w ∧ K w
theorem asTA_elim {P : Program} {t : TypeId} {ok : Bool} {v : Value} {K : Value → Prop} (h : asTA P t ok v K) : K v := by
  cases ok
  · obtain ⟨w, hv, h⟩ := tyV_ex h; rw [hv]; exact h
  · obtain ⟨w, b, hv, h⟩ := tyV_ex h; rw [hv]; exact h
/-- A step of an iterator: it is over, or a key (a place) and an element. -/
def asNext (s : Bool) (v : Value) (K : Value → Prop) : Prop :=
  (v = .tuple #[.bool false] → K (.tuple #[.bool false])) ∧
    (v ≠ .tuple #[.bool false] → match s with
      | true => ∃ i c : Int, v = .tuple #[.bool true, .int .i64 i, .int .i32 c] ∧ K (.tuple #[.bool true, .int .i64 i, .int .i32 c])
      | false => ∃ k x : Value, v = .tuple #[.bool true, k, x] ∧ K (.tuple #[.bool true, k, x]))
theorem asNext_elim {s : Bool} {v : Value} {K : Value → Prop} (h : asNext s v K) : K v := by
  by_cases hv : v = .tuple #[.bool false]
  · rw [hv]; exact h.1 hv
  · have h2 := h.2 hv
    cases s with
    | true => obtain ⟨i, c, e, h2⟩ := h2; rw [e]; exact h2
    | false => obtain ⟨i, c, e, h2⟩ := h2; rw [e]; exact h2
def asEntry (v : Value) (K : Value → Prop) : Prop := ∃ k x : Value, v = .tuple #[k, x] ∧ K (.tuple #[k, x])
theorem asEntry_elim {v : Value} {K : Value → Prop} (h : asEntry v K) : K v := by
  obtain ⟨k, x, e, h⟩ := h; rw [e]; exact h

/-- Cells written one behind the other. -/
def stN (h : Heap) (a : Addr) : List Value → Nat → (Heap → Prop) → Prop
  | [], _, K => K h
  | v :: vs, i, K => cellV v = true ∧ (hcell h (a.add i)).isSome = true ∧ hfrozen h (a.add i) = false ∧ stN (hset h (a.add i) v) a vs (i + 1) K
def st1 (h : Heap) (a : Addr) (v : Value) (K : Heap → Prop) : Prop :=
  cellV v = true ∧ (hcell h a).isSome = true ∧ hfrozen h a = false ∧ K (hset h a v)

def nxK (K : Value → Heap → Prop) : Next → Heap → Prop
  | .value v, h => K v h
  | .skip, h => K undef h
  | _, _ => False
def vcE [Gh] (P : Program) (o : Oper) (e : Env) (h : Heap) (K : Value → Heap → Prop) : Prop :=
  match o.op with
  | .store t x y =>
    match eev e x with
    | .pointer (some a) =>
      if isAggB P t then
        match eev e y with
        | .agg cs => if cs.toList.length = sizeB P t then stN h a cs.toList 0 (K undef) else False
        | _ => False
      else if sizeB P t = 1 then st1 h a (eev e y) (K undef) else False
    | _ => False
  | .call c =>
    match c.callee with
    | .builtin b => wpH P (builtin b c.argTypes o.type (c.args.map fun | .const _ => true | _ => false) (c.args.map (eev e))) (nxK fun v h' => asT P o.type v fun v => K v h') h
    | .value f => CallV P (eev e f) (c.args.map (eev e)) h fun v h' => asT P o.type v fun v => K v h'
    | .invoke r m => CallI P (eev e r) m (c.args.map (eev e)) h fun v h' => asT P o.type v fun v => K v h'
  | .typeAssert x xt t ok => wpH P (Instr.typeAssert (eev e x) xt t ok) (fun v h' => asTA P t ok v fun v => K v h') h
  | .convert s d x => wpH P (convert s d (eev e x)) (fun v h' => asT P o.type v fun v => K v h') h
  | .makeSlice t l c => wpH P (Instr.makeSlice t (eev e l) (eev e c)) (fun v h' => asT P o.type v fun v => K v h') h
  | .lookup t m k ok => wpH P (Instr.lookup t (eev e m) (eev e k) ok) (fun v h' => asT P o.type v fun v => K v h') h
  | .mapUpdate t m k v | .insert t m k v => wpH P (Instr.mapUpdate t (eev e m) (eev e k) (eev e v)) (fun _ h' => K undef h') h
  | .mapEntry t m k => wpH P (Instr.mapEntry t (eev e m) (eev e k)) (fun v h' => asT P o.type v fun v => K v h') h
  | .entryStore t m s v => wpH P (Instr.entryStore t (eev e m) (eev e s) (eev e v)) (fun _ h' => K undef h') h
  | .range t x => wpH P (Instr.range t (eev e x)) (fun v h' => (∃ r, v = .pointer (some ⟨r, 0, none⟩) ∧ K (.pointer (some ⟨r, 0, none⟩)) h')) h
  | .next it s => wpH P (Instr.next (eev e it) s o.type) (fun v h' => asNext s v fun v => K v h') h
  | .entry it => wpH P (Instr.entry (eev e it)) (fun v h' => asEntry v fun v => K v h') h
  | .alloc _ | .box _ _ | .buildSlice _ _ _ | .makeMap _ _ => wpH P (execOp (eev e) o) (nxK K) h
  | _ => False

section
variable {P : Program}
/-- The states of a frame over a heap. -/
def lift [Gh] (N : Nat) (K : Env → List Deferred → Heap → Prop) : Act → World → Prop := fun a w => Sz N a w ∧ K (aenv a) a.defers w.heap
/-- The state behind an operation that has yielded a value. -/
def got [Gh] (a : Act) (o : Oper) (K : Value → Heap → Prop) : Act → World → Prop := fun a' w' => ∃ v, a' = a.put o.dst v ∧ K v w'.heap ∧ Sm w'

theorem upon_wpH [Gh] {o : Oper} {K : Value → Heap → Prop} {Q : Exit → Act → World → Prop} {s : Sem Next} {a : Act} {w : World}
    (hs : Sm w) (h : wpH P s (nxK K) w.heap) : o.upon P a (got a o K) Q (s.run P w) := by
  obtain ⟨nx, w', hr, hk, g1, g2, g3⟩ := wpH_run s _ w h
  have hs' : Sm w' := ⟨g1.trans hs.1, g2.trans hs.2.1, g3.trans hs.2.2⟩
  rw [hr]
  cases nx <;> first | exact ⟨_, rfl, hk, hs'⟩ | exact hk.elim

theorem stN_wp {a : Addr} : ∀ {vs : List Value} {i : Nat} {h : Heap} {K : Heap → Prop}, stN h a vs i K → wpH P (storeCells a vs i) (fun _ h' => K h') h
  | [], _, _, _, hh => hh
  | v :: vs, i, h, K, hh => by
    obtain ⟨h1, h2, h3, hh⟩ := hh
    unfold storeCells
    exact ⟨h1, h2, h3, stN_wp hh⟩

theorem wpH_of_run {α : Type} {s : Sem α} {x : α} : ∀ {h : Heap} {K : α → Heap → Prop}, (∀ w : World, s.run P w = .ok x w) → quietV P (s.bind fun a => .pure (.value undef)) ≠ none → K x h → wpH P s K h := by
  induction s with
  | pure y => intro h K hr _ hk; have := hr default; simp [Sem.run] at this; subst this; exact hk
  | program k ih => intro h K hr hq hk; exact ih P (fun w => hr w) hq hk
  | _ => intro h K hr hq; simp [Sem.bind, quietV] at hq

theorem wpH_underlying {t : TypeId} {d : TypeDesc} (hu : P.underlying t = some d) {K : TypeDesc → Heap → Prop} {h : Heap} (hk : K d h) : wpH P (underlying t) K h := by
  unfold underlying program; simp only [bind, Sem.bind, wpH, hu]; exact hk
theorem wpH_info {t : TypeId} {d : TypeInfo} (hu : P.info? t = some d) {K : TypeInfo → Heap → Prop} {h : Heap} (hk : K d h) : wpH P (typeInfo t) K h := by
  unfold typeInfo program; simp only [bind, Sem.bind, wpH, hu]; exact hk
theorem wpH_size {t : TypeId} (hu : (P.info? t).isSome) {K : Nat → Heap → Prop} {h : Heap} (hk : K (sizeB P t) h) : wpH P (sizeOf t) K h := by
  obtain ⟨i, hi⟩ := Option.isSome_iff_exists.1 hu
  unfold sizeOf; simp only [bind]; rw [wpH_bind]; refine wpH_info hi ?_
  have : sizeB P t = i.size := by simp [sizeB, hi]
  rw [this] at hk; exact hk

theorem size_of_agg {t : TypeId} (h : sizeB P t ≠ 0) : (P.info? t).isSome := by
  unfold sizeB at h
  cases hi : P.info? t with
  | none => simp [hi] at h
  | some i => rfl

theorem vcE_sound [Gh] {o : Oper} {e : Env} {K : Value → Heap → Prop} {Q : Exit → Act → World → Prop} {a : Act} {w : World}
    (hs : Sm w) (hx : execOp a.eval o = execOp (eev e) o) (hh : vcE P o e w.heap K) :
    o.upon P a (got a o K) Q ((execOp a.eval o).run P w) := by
  rw [hx]
  have bindV : ∀ {s : Sem Value} {K' : Value → Heap → Prop}, wpH P s K' w.heap → wpH P (do pure (Next.value (← s)) : Sem Next) (nxK K') w.heap := fun h => by
    simp only [bind]; rw [wpH_bind]; exact h
  have bindU : ∀ {s : Sem Unit} {K' : Value → Heap → Prop}, wpH P s (fun _ h' => K' undef h') w.heap → wpH P (do s; pure Next.skip : Sem Next) (nxK K') w.heap := fun h => by
    simp only [bind]; rw [wpH_bind]; exact h
  have callK : ∀ {s : Sem Next}, CallD P s w.heap (fun v h' => asT P o.type v fun v => K v h') → o.upon P a (got a o K) Q (s.run P w) := by
    intro s hc
    have hc := hc w rfl hs
    revert hc
    cases hr : s.run P w with
    | halt x w' => intro hc; exact hc.elim
    | ok nx w' =>
      cases nx <;> intro hc <;> first | exact hc.elim | skip
      case value v => exact ⟨_, rfl, asT_elim hc.1, hc.2⟩
      case enter f args =>
        refine Calls.mono hc fun e w'' hx => ?_
        obtain ⟨v, rfl, hv, hs2⟩ := hx
        exact ⟨_, rfl, asT_elim hv, hs2⟩
  unfold vcE at hh
  split at hh
  case h_1 t x y ho =>
    have ex : execOp (eev e) o = (do Instr.storeAt t (eev e x) (eev e y); pure Next.skip) := by unfold execOp; rw [ho]
    rw [ex]
    refine upon_wpH hs (bindU ?_)
    split at hh
    case h_2 => exact hh.elim
    rename_i ad hxx
    rw [hxx]
    unfold Instr.storeAt Instr.sureAddr storeVar
    simp only [bind, pure, Sem.bind]
    split at hh
    case isTrue hag =>
      split at hh
      case h_2 => exact hh.elim
      rename_i cs hy
      split at hh
      case isFalse => exact hh.elim
      rename_i hl
      rw [wpH_bind]
      have hinfo : (P.info? t).isSome := by
        unfold isAggB at hag
        cases hq : P.underlying t with
        | none => simp [hq] at hag
        | some d => exact underlying_info (by rw [hq]; rfl)
      refine wpH_size hinfo ?_
      rw [hy]
      have hl' : cs.size = sizeB P t := by simpa using hl
      simp only [Value.cells, hl', ne_eq, not_true, if_false]
      exact stN_wp hh
    case isFalse hag =>
      split at hh
      case isFalse => exact hh.elim
      rename_i h1
      rw [wpH_bind]
      refine wpH_size (size_of_agg (by omega)) ?_
      obtain ⟨hc, hs, hf, hk⟩ := hh
      have hcells : (eev e y).cells = #[eev e y] := by
        cases hy : eev e y <;> first | rfl | (rw [hy] at hc; simp [cellV] at hc)
      rw [hcells, h1]
      simp only [List.size_toArray, List.length_cons, List.length_nil, ne_eq, not_true, if_false]
      exact ⟨hc, hs, hf, hk⟩
  case h_2 c ho =>
    have ex : execOp (eev e) o = (do let d ← resolve (eev e) c o.type; invoke d.target d.args) := by unfold execOp; rw [ho]
    rw [ex]
    split at hh
    case h_1 b hc =>
      have : (do let d ← resolve (eev e) c o.type; invoke d.target d.args) = builtin b c.argTypes o.type (c.args.map fun | .const _ => true | _ => false) (c.args.map (eev e)) := by
        unfold resolve; simp only [hc]; rfl
      rw [this]
      refine upon_wpH hs (wpH_mono _ (fun nx h' hk => ?_) hh)
      revert hk
      cases nx <;> simp only [nxK] <;> intro hk <;> first | exact asT_elim hk | exact hk
    case h_2 f hc =>
      have ex2 : (do let d ← resolve (eev e) c o.type; invoke d.target d.args) = (do let d ← Deferred.ofValue (eev e f) (c.args.map (eev e)); invoke d.target d.args) := by
        unfold resolve; simp only [hc]
      rw [ex2]
      exact callK hh
    case h_3 r m hc =>
      have ex2 : (do let d ← resolve (eev e) c o.type; invoke d.target d.args) = callMethod (eev e r) m (c.args.map (eev e)) := by
        have e1 : (#[eev e r] ++ c.args.map (eev e))[0]? = some (eev e r) := by
          rw [Array.getElem?_append_left (by simp)]; rfl
        have e2 : (#[eev e r] ++ c.args.map (eev e)).extract 1 (#[eev e r] ++ c.args.map (eev e)).size = c.args.map (eev e) := by
          apply Array.ext'; simp [List.take_of_length_le]
        unfold resolve; simp only [hc]
        show invoke (.fn (.method m) #[]) (#[eev e r] ++ c.args.map (eev e)) = _
        unfold invoke
        rw [e1, e2]
      rw [ex2]
      exact callK hh
  case h_3 x xt t ok ho =>
    have ex : execOp (eev e) o = (do pure (.value (← Instr.typeAssert (eev e x) xt t ok))) := by unfold execOp; rw [ho]
    rw [ex]; exact upon_wpH hs (bindV (wpH_mono _ (fun v h' hk => asTA_elim hk) hh))
  case h_4 s d x ho =>
    have ex : execOp (eev e) o = (do pure (.value (← convert s d (eev e x)))) := by unfold execOp; rw [ho]
    rw [ex]; exact upon_wpH hs (bindV (wpH_mono _ (fun v h' hk => asT_elim hk) hh))
  case h_5 t l c ho =>
    have ex : execOp (eev e) o = (do pure (.value (← Instr.makeSlice t (eev e l) (eev e c)))) := by unfold execOp; rw [ho]
    rw [ex]; exact upon_wpH hs (bindV (wpH_mono _ (fun v h' hk => asT_elim hk) hh))
  case h_6 t m k ok ho =>
    have ex : execOp (eev e) o = (do pure (.value (← Instr.lookup t (eev e m) (eev e k) ok))) := by unfold execOp; rw [ho]
    rw [ex]; exact upon_wpH hs (bindV (wpH_mono _ (fun v h' hk => asT_elim hk) hh))
  case h_7 t m k v ho =>
    have ex : execOp (eev e) o = (do Instr.mapUpdate t (eev e m) (eev e k) (eev e v); pure .skip) := by unfold execOp; rw [ho]
    rw [ex]; exact upon_wpH hs (bindU hh)
  case h_8 t m k v ho =>
    have ex : execOp (eev e) o = (do Instr.mapUpdate t (eev e m) (eev e k) (eev e v); pure .skip) := by unfold execOp; rw [ho]
    rw [ex]; exact upon_wpH hs (bindU hh)
  case h_9 t m k ho =>
    have ex : execOp (eev e) o = (do pure (.value (← Instr.mapEntry t (eev e m) (eev e k)))) := by unfold execOp; rw [ho]
    rw [ex]; exact upon_wpH hs (bindV (wpH_mono _ (fun v h' hk => asT_elim hk) hh))
  case h_10 t m s v ho =>
    have ex : execOp (eev e) o = (do Instr.entryStore t (eev e m) (eev e s) (eev e v); pure .skip) := by unfold execOp; rw [ho]
    rw [ex]; exact upon_wpH hs (bindU hh)
  case h_11 t x ho =>
    have ex : execOp (eev e) o = (do pure (.value (← Instr.range t (eev e x)))) := by unfold execOp; rw [ho]
    rw [ex]; exact upon_wpH hs (bindV (wpH_mono _ (fun v h' hk => by obtain ⟨r, rfl, hk⟩ := hk; exact hk) hh))
  case h_12 it s ho =>
    have ex : execOp (eev e) o = (do pure (.value (← Instr.next (eev e it) s o.type))) := by unfold execOp; rw [ho]
    rw [ex]; exact upon_wpH hs (bindV (wpH_mono _ (fun v h' hk => asNext_elim hk) hh))
  case h_13 it ho =>
    have ex : execOp (eev e) o = (do pure (.value (← Instr.entry (eev e it)))) := by unfold execOp; rw [ho]
    rw [ex]; exact upon_wpH hs (bindV (wpH_mono _ (fun v h' hk => asEntry_elim hk) hh))
  all_goals first | exact upon_wpH hs hh | exact hh.elim
end
end Go.Proofs.Ytjelnknmjhceiaa
