/-
  The automaton's memory: a row of states, each with a slice of patterns that is its own.
-/
import Derived.Test.YthnheldoklgceaaDoorAutD
namespace Go.Proofs.YthnheldoklgceaaDoor
set_option linter.unusedSimpArgs false
set_option linter.unusedVariables false
set_option maxRecDepth 20000
open Go
open Go.IntKind (wrap)
structure St where
  nx : Nat → Nat
  fa : Nat
  ou : Nat
  eq : Option Addr
  ec : Nat
  en : List Nat
def nxV (f : Nat → Nat) : List Value := (List.range 256).map fun c => .int .u16 (f c)
theorem nxV_len (f : Nat → Nat) : (nxV f).length = 256 := by unfold nxV; simp
def stV (s : St) : List Value := nxV s.nx ++ [.int .u16 s.fa, .int .u16 s.ou, .slice s.eq s.en.length s.ec]
theorem stV_len (s : St) : (stV s).length = 259 := by unfold stV; rw [List.length_append, nxV_len]; rfl
theorem stV_nx (s : St) {c : Nat} (hc : c < 256) : (stV s)[c]? = some (.int .u16 (s.nx c)) := by
  unfold stV nxV
  rw [List.getElem?_append_left (by simp; exact hc), List.getElem?_map, List.getElem?_range hc]; rfl
theorem stV_hi (s : St) (j : Nat) : (stV s)[256 + j]? = [Value.int .u16 s.fa, .int .u16 s.ou, .slice s.eq s.en.length s.ec][j]? := by
  unfold stV
  rw [List.getElem?_append_right (by rw [nxV_len]; omega), nxV_len, Nat.add_sub_cancel_left]
theorem stV_fa (s : St) : (stV s)[256]? = some (.int .u16 s.fa) := stV_hi s 0
theorem stV_ou (s : St) : (stV s)[257]? = some (.int .u16 s.ou) := stV_hi s 1
theorem stV_en (s : St) : (stV s)[258]? = some (.slice s.eq s.en.length s.ec) := stV_hi s 2
theorem stV_cell (s : St) : (stV s).all cellV = true := by
  unfold stV nxV
  rw [List.all_append, List.all_map]
  rw [Bool.and_eq_true]
  exact ⟨List.all_eq_true.2 fun x _ => rfl, rfl⟩
theorem nxV_get (f : Nat → Nat) (i : Nat) (h : i < (nxV f).length) : (nxV f)[i] = .int .u16 (f i) := by
  have hi : i < 256 := by rw [nxV_len] at h; exact h
  have : (nxV f)[i]? = some (.int .u16 (f i)) := by unfold nxV; rw [List.getElem?_map, List.getElem?_range hi]; rfl
  exact (List.getElem?_eq_some_iff.1 this).2
def putN (f : Nat → Nat) (c v : Nat) : Nat → Nat := fun x => if x = c then v else f x
theorem set_nx (s : St) {c : Nat} (hc : c < 256) (v : Nat) : stV { s with nx := putN s.nx c v } = (stV s).set c (.int .u16 v) := by
  unfold stV
  rw [List.set_append_left _ _ (by rw [nxV_len]; exact hc)]
  congr 1
  apply List.ext_getElem
  · rw [List.length_set, nxV_len, nxV_len]
  · intro i h1 h2
    rw [List.getElem_set, nxV_get, nxV_get]
    show Value.int .u16 ((putN s.nx c v i : Nat) : Int) = _
    unfold putN
    by_cases h : c = i
    · rw [if_pos h, if_pos h.symm]
    · rw [if_neg h, if_neg (fun hh => h hh.symm)]
theorem set_hi (s : St) (w : List Value) (j : Nat) (v : Value) : (nxV s.nx ++ w).set (256 + j) v = nxV s.nx ++ w.set j v := by
  rw [List.set_append_right _ _ (by rw [nxV_len]; omega), nxV_len, Nat.add_sub_cancel_left]
theorem set_fa (s : St) (v : Nat) : stV { s with fa := v } = (stV s).set 256 (.int .u16 v) := by
  unfold stV; rw [show 256 = 256 + 0 from rfl, set_hi]; rfl
theorem set_ou (s : St) (v : Nat) : stV { s with ou := v } = (stV s).set 257 (.int .u16 v) := by
  unfold stV; rw [show 257 = 256 + 1 from rfl, set_hi]; rfl
theorem set_en (s : St) (q : Option Addr) (c : Nat) (l : List Nat) : stV { s with eq := q, ec := c, en := l } = (stV s).set 258 (.slice q l.length c) := by
  unfold stV; rw [show 258 = 256 + 2 from rfl, set_hi]; rfl
def st00 : St := ⟨fun _ => 0, 0, 0, none, 0, []⟩
def inV (n : Nat) : List Value := [.int .i64 n]
theorem inV_len (n : Nat) : (inV n).length = 1 := rfl
set_option maxRecDepth 100000 in
theorem el_st : ElemT Tryd.prog T_sl_automaton_state T_automaton_state Tryd.t58 (.agg (stV st00).toArray) :=
  ⟨Tryd.underlying41, by kernel_rfl, by kernel_rfl, by kernel_rfl, by decide +kernel⟩
theorem el_int : ElemT Tryd.prog T_sl_int T_int Tryd.t3 (.int .i64 0) := ⟨Tryd.underlying56, by kernel_rfl, by kernel_rfl, by kernel_rfl, by decide⟩
/-- Whose a block is. -/
abbrev Tag := Nat → Nat
def upT (o : Tag) (n t : Nat) : Tag := fun x => if x < n then o x else t
theorem upT_lt {o : Tag} {n t x : Nat} (h : x < n) : upT o n t x = o x := if_pos h
theorem upT_ge {o : Tag} {n t x : Nat} (h : n ≤ x) : upT o n t x = t := if_neg (by omega)
def Old (h : Heap) (o o' : Tag) : Prop := ∀ x, x < h.size → o' x = o x
theorem Old.refl (h : Heap) (o : Tag) : Old h o o := fun _ _ => rfl
theorem Old.up {h : Heap} {o : Tag} {n t : Nat} (hn : h.size ≤ n) : Old h o (upT o n t) := fun x hx => upT_lt (by omega)
/-- The automaton at a: block a has tag k + 1, its states k + 2, the patterns of state i k + 3 + i. -/
structure AutF (o : Tag) (k : Nat) (h : Heap) (a : Addr) (sg : List St) (pq : Option Addr) (pn pc : Nat) : Prop where
  ex : ∃ q c, Own h a [.slice q sg.length c, .slice pq pn pc] T_automaton_Automaton ∧ Row 259 stV h q c sg ∧ ∀ x, InA q x → o x = k + 2
  ends : ∀ i (hi : i < sg.length), Row 1 inV h sg[i].eq sg[i].ec sg[i].en ∧ ∀ x, InA sg[i].eq x → o x = k + 3 + i
  tag : o a.block = k + 1
section
variable {o o' : Tag} {k : Nat} {h h' : Heap} {R : Nat → Prop} {a : Addr} {sg : List St} {pq : Option Addr} {pn pc : Nat}
theorem AutF.lt (A : AutF o k h a sg pq pn pc) : a.block < h.size := by obtain ⟨q, c, ow, _⟩ := A.ex; exact ow.lt
theorem AutF.fr (A : AutF o k h a sg pq pn pc) (f : Fr R h h') (hR : ∀ x, x < h.size → R x → o x ≤ k ∨ k + 3 + sg.length ≤ o x) (ho : Old h o o') : AutF o' k h' a sg pq pn pc := by
  obtain ⟨q, c, ow, Q, hq⟩ := A.ex
  have tg := A.tag
  refine ⟨⟨q, c, ow.fr f fun hr => by have := hR _ ow.lt hr; omega, Q.fr f fun x hx hr => by have := hR _ (Q.lt hx) hr; have := hq x hx; omega, fun x hx => by rw [ho x (Q.lt hx)]; exact hq x hx⟩, fun i hi => ?_, by rw [ho _ ow.lt]; exact tg⟩
  obtain ⟨E, he⟩ := A.ends i hi
  exact ⟨E.fr f fun x hx hr => by have := hR _ (E.lt hx) hr; have := he x hx; omega, fun x hx => by rw [ho x (E.lt hx)]; exact he x hx⟩
theorem AutF.fr0 (A : AutF o k h a sg pq pn pc) (f : Fr (fun _ => False) h h') : AutF o k h' a sg pq pn pc := A.fr f (fun _ _ h => h.elim) (Old.refl _ _)
/-- The states' slice. -/
theorem AutF.cell (A : AutF o k h a sg pq pn pc) : ∃ q c, hcell h a = some (.slice q sg.length c) ∧ (∀ i (hi : i < sg.length), ∃ ad, q = some ad ∧ Cells h (ad.add (i * 259)) (stV sg[i])) := by
  obtain ⟨q, c, ow, Q, hq⟩ := A.ex
  exact ⟨q, c, ow.cells.at0 rfl, fun i hi => Q.cellsAt stV_len (by omega) i hi⟩
/-- A cell of a state is written; the slice of its patterns stays. -/
theorem AutF.put (A : AutF o k h a sg pq pn pc) {q : Option Addr} {c : Nat} (hc : hcell h a = some (.slice q sg.length c)) {ad : Addr} (hq : q = some ad) (i : Nat) (hi : i < sg.length) {j : Nat} (hj : j < 259) {v : Value} (hv : cellV v = true) (e' : St) (he : stV e' = (stV sg[i]).set j v) (h1 : e'.eq = sg[i].eq) (h2 : e'.ec = sg[i].ec) (h3 : e'.en = sg[i].en) {K : Heap → Prop}
    (hk : ∀ h', Fr (fun x => o x = k + 2) h h' → AutF o k h' a (sg.set i e') pq pn pc → K h') : st1 h ((ad.add (i * 259)).add j) v K := by
  obtain ⟨q', c', ow, Q, hq'⟩ := A.ex
  have tg := A.tag
  have e := hc.symm.trans (ow.cells.at0 rfl)
  simp only [Option.some.injEq, Value.slice.injEq] at e
  obtain ⟨rfl, _, rfl⟩ := e
  refine Q.set1 stV_len i hi hq hj hv he fun h5 f5 Q5 => ?_
  have F : Fr (fun x => o x = k + 2) h h5 := f5.mono fun x hx => hq' x hx
  refine hk h5 F ⟨⟨q, c, ?_, Q5, hq'⟩, fun m hm => ?_, tg⟩
  · have := ow.fr F (by omega)
    rw [List.length_set]; exact this
  · rw [List.length_set] at hm
    obtain ⟨E, hE⟩ := A.ends m hm
    have E5 := E.fr F fun x hx hh => by have := hE x hx; omega
    rw [List.getElem_set]
    split
    · rename_i him
      subst him
      rw [h1, h2, h3]; exact ⟨E5, hE⟩
    · exact ⟨E5, hE⟩
end
end Go.Proofs.YthnheldoklgceaaDoor
