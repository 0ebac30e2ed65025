/-
  Part 4 of 5 of the proofs: the texts of wip/ in one file, without what this claim does not use.
-/
import Derived.Test.YtjmfpeiidlpngaaGreatDoorZC3
namespace Go.Proofs.YtjmfpeiidlpngaaGreatDoor.Au
set_option linter.unusedSimpArgs false
set_option linter.unusedVariables false
set_option maxRecDepth 20000
open Go
open Go.IntKind (wrap)
structure St where
 nx : Nat → Nat
 fa : Nat
 ou : Nat
 eq : Option Addr
 ec : Nat
 en : List Nat
def nxV (f : Nat → Nat) : List Value := (List.range 256).map fun c => .int .u16 (f c)
theorem oq (f : Nat → Nat) : (nxV f).length = 256 := by unfold nxV; simp
def stV (s : St) : List Value := nxV s.nx ++ [.int .u16 s.fa, .int .u16 s.ou, .slice s.eq s.en.length s.ec]
theorem qw (s : St) : (stV s).length = 259 := by unfold stV; rw [List.length_append, oq]; rfl
theorem AQ (s : St) {c : Nat} (hc : c < 256) : (stV s)[c]? = some (.int .u16 (s.nx c)) := by
 unfold stV nxV
 rw [List.getElem?_append_left (by simp; exact hc), List.getElem?_map, List.getElem?_range hc]; rfl
theorem Dz (s : St) (j : Nat) : (stV s)[256 + j]? = [Value.int .u16 s.fa, .int .u16 s.ou, .slice s.eq s.en.length s.ec][j]? := by
 unfold stV
 rw [List.getElem?_append_right (by rw [oq]; omega), oq, Nat.add_sub_cancel_left]
theorem IY (s : St) : (stV s)[256]? = some (.int .u16 s.fa) := Dz s 0
theorem Ha (s : St) : (stV s)[257]? = some (.int .u16 s.ou) := Dz s 1
theorem Bh (s : St) : (stV s)[258]? = some (.slice s.eq s.en.length s.ec) := Dz s 2
theorem Gj (s : St) : (stV s).all ee = true := by
 unfold stV nxV
 rw [List.all_append, List.all_map]
 rw [Bool.and_eq_true]
 exact ⟨List.all_eq_true.2 fun x _ => rfl, rfl⟩
theorem AX (f : Nat → Nat) (i : Nat) (h : i < (nxV f).length) : (nxV f)[i] = .int .u16 (f i) := by
 have hi : i < 256 := by rw [oq] at h; exact h
 have : (nxV f)[i]? = some (.int .u16 (f i)) := by unfold nxV; rw [List.getElem?_map, List.getElem?_range hi]; rfl
 exact (List.getElem?_eq_some_iff.1 this).2
def uM (f : Nat → Nat) (c v : Nat) : Nat → Nat := fun x => if x = c then v else f x
theorem Hd (s : St) {c : Nat} (hc : c < 256) (v : Nat) : stV { s with nx := uM s.nx c v } = (stV s).set c (.int .u16 v) := by
 unfold stV
 rw [List.set_append_left _ _ (by rw [oq]; exact hc)]
 congr 1
 apply List.ext_getElem
 ·rw [List.length_set, oq, oq]
 ·intro i h1 h2
  rw [List.getElem_set, AX, AX]
  show Value.int .u16 ((uM s.nx c v i : Nat) : Int) = _
  unfold uM
  by_cases h : c = i
  ·rw [if_pos h, if_pos h.symm]
  ·rw [if_neg h, if_neg (fun hh => h hh.symm)]
theorem Dx (s : St) (w : List Value) (j : Nat) (v : Value) : (nxV s.nx ++ w).set (256 + j) v = nxV s.nx ++ w.set j v := by
 rw [List.set_append_right _ _ (by rw [oq]; omega), oq, Nat.add_sub_cancel_left]
theorem Jh (s : St) (v : Nat) : stV { s with fa := v } = (stV s).set 256 (.int .u16 v) := by
 unfold stV; rw [show 256 = 256 + 0 from rfl, Dx]; rfl
theorem Hf (s : St) (v : Nat) : stV { s with ou := v } = (stV s).set 257 (.int .u16 v) := by
 unfold stV; rw [show 257 = 256 + 1 from rfl, Dx]; rfl
theorem JC (s : St) (q : Option Addr) (c : Nat) (l : List Nat) : stV { s with eq := q, ec := c, en := l } = (stV s).set 258 (.slice q l.length c) := by
 unfold stV; rw [show 258 = 256 + 2 from rfl, Dx]; rfl
def py : St := ⟨fun _ => 0, 0, 0, none, 0, []⟩
def inV (n : Nat) : List Value := [.int .i64 n]
theorem ux (n : Nat) : (inV n).length = 1 := rfl
set_option maxRecDepth 100000 in
theorem Hq : gM Tryz.prog cB qz Tryz.t204 (.agg (stV py).toArray) :=
 ⟨Tryz.underlying165, by kernel_rfl, by kernel_rfl, by kernel_rfl, by decide +kernel⟩
theorem ua : gM Tryz.prog bK qd Tryz.t3 (.int .i64 0) := ⟨Tryz.underlying46, by kernel_rfl, by kernel_rfl, by kernel_rfl, by decide⟩
abbrev Tag := Nat → Nat
def upT (o : Tag) (n t : Nat) : Tag := fun x => if x < n then o x else t
theorem dU {o : Tag} {n t x : Nat} (h : x < n) : upT o n t x = o x := if_pos h
theorem jR {o : Tag} {n t x : Nat} (h : n ≤ x) : upT o n t x = t := if_neg (by omega)
def Old (h : aA) (o o' : Tag) : Prop := ∀ x, x < h.size → o' x = o x
theorem Old.refl (h : aA) (o : Tag) : Old h o o := fun _ _ => rfl
theorem Old.up {h : aA} {o : Tag} {n t : Nat} (hn : h.size ≤ n) : Old h o (upT o n t) := fun x hx => dU (by omega)
structure jF (o : Tag) (k : Nat) (h : aA) (a : Addr) (sg : List St) (pq : Option Addr) (pn pc : Nat) : Prop where
 ex : ∃ q c, Own h a [.slice q sg.length c, .slice pq pn pc] kb ∧ Row 259 stV h q c sg ∧ ∀ x, InA q x → o x = k + 2
 ends : ∀ i (hi : i < sg.length), Row 1 inV h sg[i].eq sg[i].ec sg[i].en ∧ ∀ x, InA sg[i].eq x → o x = k + 3 + i
 tag : o a.block = k + 1
section
variable {o o' : Tag} {k : Nat} {h h' : aA} {R : Nat → Prop} {a : Addr} {sg : List St} {pq : Option Addr} {pn pc : Nat}
theorem jF.lt (A : jF o k h a sg pq pn pc) : a.block < h.size := by obtain ⟨q, c, ow, _⟩ := A.ex; exact ow.lt
theorem jF.fr (A : jF o k h a sg pq pn pc) (f : Fr R h h') (hR : ∀ x, x < h.size → R x → o x ≤ k ∨ k + 3 + sg.length ≤ o x) (ho : Old h o o') : jF o' k h' a sg pq pn pc := by
 obtain ⟨q, c, ow, Q, hq⟩ := A.ex
 have tg := A.tag
 refine ⟨⟨q, c, ow.fr f fun hr => by have := hR _ ow.lt hr; omega, Q.fr f fun x hx hr => by have := hR _ (Q.lt hx) hr; have := hq x hx; omega, fun x hx => by rw [ho x (Q.lt hx)]; exact hq x hx⟩, fun i hi => ?_, by rw [ho _ ow.lt]; exact tg⟩
 obtain ⟨E, he⟩ := A.ends i hi
 exact ⟨E.fr f fun x hx hr => by have := hR _ (E.lt hx) hr; have := he x hx; omega, fun x hx => by rw [ho x (E.lt hx)]; exact he x hx⟩
theorem jF.fr0 (A : jF o k h a sg pq pn pc) (f : Fr (fun _ => False) h h') : jF o k h' a sg pq pn pc := A.fr f (fun _ _ h => h.elim) (Old.refl _ _)
theorem jF.cell (A : jF o k h a sg pq pn pc) : ∃ q c, hcell h a = some (.slice q sg.length c) ∧ (∀ i (hi : i < sg.length), ∃ ad, q = some ad ∧ aW h (ad.add (i * 259)) (stV sg[i])) := by
 obtain ⟨q, c, ow, Q, hq⟩ := A.ex
 exact ⟨q, c, ow.cells.at0 rfl, fun i hi => Q.cellsAt qw (by omega) i hi⟩
theorem jF.put (A : jF o k h a sg pq pn pc) {q : Option Addr} {c : Nat} (hc : hcell h a = some (.slice q sg.length c)) {ad : Addr} (hq : q = some ad) (i : Nat) (hi : i < sg.length) {j : Nat} (hj : j < 259) {v : Value} (hv : ee v = true) (e' : St) (he : stV e' = (stV sg[i]).set j v) (h1 : e'.eq = sg[i].eq) (h2 : e'.ec = sg[i].ec) (h3 : e'.en = sg[i].en) {K : aA → Prop}
  (hk : ∀ h', Fr (fun x => o x = k + 2) h h' → jF o k h' a (sg.set i e') pq pn pc → K h') : st1 h ((ad.add (i * 259)).add j) v K := by
 obtain ⟨q', c', ow, Q, hq'⟩ := A.ex
 have tg := A.tag
 have e := hc.symm.trans (ow.cells.at0 rfl)
 simp only [Option.some.injEq, Value.slice.injEq] at e
 obtain ⟨rfl, _, rfl⟩ := e
 refine Q.set1 qw i hi hq hj hv he fun h5 f5 Q5 => ?_
 have F : Fr (fun x => o x = k + 2) h h5 := f5.mono fun x hx => hq' x hx
 refine hk h5 F ⟨⟨q, c, ?_, Q5, hq'⟩, fun m hm => ?_, tg⟩
 ·have := ow.fr F (by omega)
  rw [List.length_set]; exact this
 ·rw [List.length_set] at hm
  obtain ⟨E, hE⟩ := A.ends m hm
  have E5 := E.fr F fun x hx hh => by have := hE x hx; omega
  rw [List.getElem_set]
  split
  ·rename_i him
   subst him
   rw [h1, h2, h3]; exact ⟨E5, hE⟩
  ·exact ⟨E5, hE⟩
end
end Go.Proofs.YtjmfpeiidlpngaaGreatDoor.Au
namespace Go.Proofs.YtjmfpeiidlpngaaGreatDoor.Au
set_option linter.unusedSimpArgs false
set_option linter.unusedVariables false
set_option maxRecDepth 20000
open Go
open Go.IntKind (wrap)
section
variable {o o' : Tag} {k : Nat} {h h' : aA} {a : Addr} {sg : List St} {pq : Option Addr} {pn pc : Nat}
theorem jF.grow [Gh] (A : jF o k h a sg pq pn pc) {b : Addr} {T : TypeId} (ob : Own h b (stV py) T) (hl : sg.length ≤ 2 ^ 20) {q : Option Addr} {c : Nat} (hc : hcell h a = some (.slice q sg.length c)) {K : aA → Prop}
  (hk : ∀ o' h', Old h o o' → Fr (fun x => o x = k + 1 ∨ o x = k + 2) h h' → (∀ x, h.size ≤ x → o' x = k + 2) → jF o' k h' a (sg ++ [py]) pq pn pc → K h') :
  dN Tryz.prog .append #[cB, cB] cB #[false, false] #[.slice q sg.length c, .slice (some b) 1 1] h fun v h3 => ∃ t44a : Option Addr, ∃ t44n : Nat, ∃ t44c : Nat, v = .slice t44a t44n t44c ∧ nn (some a) fun t45 => st1 h3 t45 (.slice t44a t44n t44c) K := by
 obtain ⟨q', c', ow, Q, hq⟩ := A.ex
 have tg := A.tag
 have lt := ow.lt
 have e := hc.symm.trans (ow.cells.at0 rfl)
 simp only [Option.some.injEq, Value.slice.injEq] at e
 obtain ⟨rfl, _, rfl⟩ := e
 refine Q.app Hq Tryz.underlying165 (by intro k e; cases e) (by kernel_rfl) (by decide +kernel) qw Gj ob 1 (by omega) fun p2 c2 h2 Q2 f2 hn2 => ⟨_, _, _, rfl, aS ?_⟩
 have ow2 := ow.fr f2 fun hx => by have := hq _ hx; omega
 refine mL ow2 (by simp) rfl fun h3 f3 s3 o3 => ?_
 have ho : Old h o (upT o h.size (k + 2)) := Old.up (Nat.le_refl _)
 have F : Fr (fun x => o x = k + 1 ∨ o x = k + 2) h h3 := (f2.mono fun x hx => .inr (hq x hx)).trans (f3.mono fun x hx => .inl (by subst hx; exact tg))
 have new : ∀ x, InA p2 x → upT o h.size (k + 2) x = k + 2 := fun x hx => by
  rcases hn2 x hx with h | h
  ·rw [dU (Q.lt h)]; exact hq x h
  ·exact jR h
 refine hk _ h3 ho F (fun x hx => jR hx) ⟨⟨p2, c2, o3, Q2.fr f3 fun x hx hb => ?_, new⟩, fun i hi => ?_, by rw [dU lt]; exact tg⟩
 ·subst hb
  have := new _ hx
  rw [dU lt] at this; omega
 ·by_cases hlt : i < sg.length
  ·rw [List.getElem_append_left hlt]
   obtain ⟨E, hE⟩ := A.ends i hlt
   exact ⟨E.fr F fun x hx hb => by have := hE x hx; omega, fun x hx => by rw [dU (E.lt hx)]; exact hE x hx⟩
  ·have : i = sg.length := by rw [List.length_append, List.length_singleton] at hi; omega
   subst this
   simp only [List.getElem_concat_length]
   exact ⟨Row.nil, fun x hx => (dR hx).elim⟩
theorem jF.addEnd [Gh] (A : jF o k h a sg pq pn pc) (i : Nat) (hi : i < sg.length) (e : Nat) {b : Addr} {T : TypeId} (ob : Own h b (inV e) T) (hl : sg[i].en.length ≤ 2 ^ 20) {q : Option Addr} {c : Nat} (hc : hcell h a = some (.slice q sg.length c)) {K : aA → Prop}
  (hk : ∀ o' h' q' c', Old h o o' → Fr (fun x => o x = k + 2 ∨ o x = k + 3 + i) h h' → (∀ x, h.size ≤ x → o' x = k + 3 + i) → jF o' k h' a (sg.set i { sg[i] with eq := q', ec := c', en := sg[i].en ++ [e] }) pq pn pc → K h') :
  dN Tryz.prog .append #[bK, bK] bK #[false, false] #[.slice sg[i].eq sg[i].en.length sg[i].ec, .slice (some b) 1 1] h fun v h7 => ∃ t75a : Option Addr, ∃ t75n : Nat, ∃ t75c : Nat, v = .slice t75a t75n t75c ∧ (ldL h7 a fun t963a t963n t963c => (.slice t963a t963n t963c : Value) = .slice q sg.length c) ∧ bQ (i : Int) sg.length (nn q fun t76 => st1 h7 (Addr.add (Addr.add t76 (i * 259)) 258) (.slice t75a t75n t75c) K) := by
 obtain ⟨q', c', ow, Q, hq⟩ := A.ex
 have tg := A.tag
 have lt := ow.lt
 have e' := hc.symm.trans (ow.cells.at0 rfl)
 simp only [Option.some.injEq, Value.slice.injEq] at e'
 obtain ⟨rfl, _, rfl⟩ := e'
 obtain ⟨E, hE⟩ := A.ends i hi
 refine E.app ua Tryz.underlying46 (by intro k e; cases e) (by kernel_rfl) (by decide +kernel) ux (fun _ => rfl) ob 1 (by omega) fun p2 c2 h2 E2 f2 hn2 => ⟨_, _, _, rfl, ?_⟩
 have ow2 := ow.fr f2 fun hx => by have := hE _ hx; omega
 have Q2 := Q.fr f2 fun x hx hb => by have := hq x hx; have := hE x hb; omega
 refine ⟨⟨q, _, _, ow2.cells.at0 rfl, rfl⟩, ?_⟩
 obtain ⟨ad, had, _⟩ := Q2.cellsAt qw (by omega) i hi
 subst had
 refine bO i rfl hi (aS ?_)
 refine Q2.set1 qw i hi rfl (j := 258) (by omega) (v := .slice p2 (sg[i].en ++ [e]).length c2) rfl (e' := { sg[i] with eq := p2, ec := c2, en := sg[i].en ++ [e] }) (JC _ _ _ _) fun h3 f3 Q3 => ?_
 have ho : Old h o (upT o h.size (k + 3 + i)) := Old.up (Nat.le_refl _)
 have F : Fr (fun x => o x = k + 2 ∨ o x = k + 3 + i) h h3 := (f2.mono fun x hx => .inr (hE x hx)).trans (f3.mono fun x hx => .inl (hq x hx))
 have new : ∀ x, InA p2 x → upT o h.size (k + 3 + i) x = k + 3 + i := fun x hx => by
  rcases hn2 x hx with h | h
  ·rw [dU (E.lt h)]; exact hE x h
  ·exact jR h
 refine hk _ h3 p2 c2 ho F (fun x hx => jR hx) ⟨⟨some ad, c, ?_, Q3, fun x hx => by rw [dU (Q.lt hx)]; exact hq x hx⟩, fun m hm => ?_, by rw [dU lt]; exact tg⟩
 ·rw [List.length_set]; exact ow.fr F fun hh => by omega
 ·rw [List.length_set] at hm
  rw [List.getElem_set]
  split
  ·rename_i him
   subst him
   exact ⟨E2.fr f3 fun x hx hb => by have h1 := new x hx; have h2 := hq x hb; have h3 := Q.lt hb; rw [dU h3] at h1; omega, new⟩
  ·rename_i him
   obtain ⟨G, hG⟩ := A.ends m hm
   exact ⟨G.fr F fun x hx hb => by have := hG x hx; omega, fun x hx => by rw [dU (G.lt hx)]; exact hG x hx⟩
end
end Go.Proofs.YtjmfpeiidlpngaaGreatDoor.Au
namespace Go.Proofs.YtjmfpeiidlpngaaGreatDoor.Au
set_option linter.unusedSimpArgs false
set_option linter.unusedVariables false
set_option maxRecDepth 20000
open Go
structure ri (sg : List St) (ws : List Nm) (E : Nm → List Nat) : Prop where
 len : sg.length = ws.length
 nd : ws.Nodup
 z : ws[0]? = some []
 pre : ∀ w c, w ++ [c] ∈ ws → w ∈ ws
 no : ∀ i (hi : i < sg.length) w (c : UInt8), ws[i]? = some w → sg[i].nx c.toNat = 0 → w ++ [c] ∉ ws
 yes : ∀ i (hi : i < sg.length) w (c : UInt8), ws[i]? = some w → sg[i].nx c.toNat ≠ 0 → ws[sg[i].nx c.toNat]? = some (w ++ [c])
 fo : ∀ i (hi : i < sg.length), sg[i].fa = 0 ∧ sg[i].ou = 0
 en : ∀ i (hi : i < sg.length) w, ws[i]? = some w → sg[i].en = E w
 out : ∀ w, w ∉ ws → E w = []
theorem iV {ws : List Nm} (nd : ws.Nodup) {i j : Nat} {w : Nm} (h1 : ws[i]? = some w) (h2 : ws[j]? = some w) : i = j := by
 exact (List.getElem?_inj (List.getElem?_eq_some_iff.1 h1).1 nd).1 (h1.trans h2.symm)
section
variable {sg : List St} {ws : List Nm} {E : Nm → List Nat}
theorem ri.lt (T : ri sg ws E) {i : Nat} {w : Nm} (h : ws[i]? = some w) : i < sg.length := by
 rw [T.len]; exact (List.getElem?_eq_some_iff.1 h).1
theorem ri.mem (T : ri sg ws E) {i : Nat} {w : Nm} (h : ws[i]? = some w) : w ∈ ws := List.mem_of_getElem? h
theorem ri.grow (T : ri sg ws E) {now : Nat} {w : Nm} (hw : ws[now]? = some w) (c : UInt8) (h0 : (sg[now]'(T.lt hw)).nx c.toNat = 0) :
  ri ((sg ++ [py]).set now { sg[now]'(T.lt hw) with nx := uM (sg[now]'(T.lt hw)).nx c.toNat sg.length }) (ws ++ [w ++ [c]]) E := by
 have hlt := T.lt hw
 have hnew : w ++ [c] ∉ ws := T.no now hlt w c hw h0
 have hlen := T.len
 have hne0 : sg.length ≠ 0 := by omega
 have hat : ∀ i (hi : i < ((sg ++ [py]).set now { sg[now] with nx := uM sg[now].nx c.toNat sg.length }).length) (h2 : i < sg.length), i ≠ now → ((sg ++ [py]).set now { sg[now] with nx := uM sg[now].nx c.toNat sg.length })[i] = sg[i] := fun i hi h2 hne => by
  rw [List.getElem_set, if_neg (fun h => hne h.symm), List.getElem_append_left h2]
 have hnow : ∀ (hi : now < ((sg ++ [py]).set now { sg[now] with nx := uM sg[now].nx c.toNat sg.length }).length), ((sg ++ [py]).set now { sg[now] with nx := uM sg[now].nx c.toNat sg.length })[now] = { sg[now] with nx := uM sg[now].nx c.toNat sg.length } := fun hi => by
  rw [List.getElem_set, if_pos rfl]
 have hend : ∀ i (hi : i < ((sg ++ [py]).set now { sg[now] with nx := uM sg[now].nx c.toNat sg.length }).length), ¬ i < sg.length → ((sg ++ [py]).set now { sg[now] with nx := uM sg[now].nx c.toNat sg.length })[i] = py ∧ i = sg.length := fun i hi h2 => by
  have hi' : i < sg.length + 1 := by simpa using hi
  have : i = sg.length := by omega
  subst this
  refine ⟨?_, rfl⟩
  rw [List.getElem_set, if_neg (by omega), List.getElem_append_right (by omega)]
  simp
 have hold : ∀ i (h2 : i < sg.length) v, (ws ++ [w ++ [c]])[i]? = some v → ws[i]? = some v := fun i h2 v hv => by
  rw [List.getElem?_append_left (by omega)] at hv; exact hv
 have hext : ∀ i v, ws[i]? = some v → (ws ++ [w ++ [c]])[i]? = some v := fun i v hv => by
  rw [List.getElem?_append_left (List.getElem?_eq_some_iff.1 hv).1]; exact hv
 have hlast : ∀ v, (ws ++ [w ++ [c]])[sg.length]? = some v → v = w ++ [c] := fun v hv => by
  rw [hlen, List.getElem?_append_right (Nat.le_refl _), Nat.sub_self] at hv
  exact (Option.some.inj hv).symm
 have hlast2 : (ws ++ [w ++ [c]])[sg.length]? = some (w ++ [c]) := by
  rw [hlen, List.getElem?_append_right (Nat.le_refl _), Nat.sub_self]; rfl
 have tn : ∀ {x y : UInt8}, x.toNat = y.toNat → x = y := fun h => UInt8.toNat_inj.1 h
 refine ⟨?_, ?_, ?_, ?_, ?_, ?_, ?_, ?_, ?_⟩
 ·rw [List.length_set, List.length_append, List.length_append, hlen]; rfl
 ·exact List.nodup_append.2 ⟨T.nd, by simp, fun x hx y hy hxy => by rw [List.mem_singleton.1 hy] at hxy; rw [hxy] at hx; exact hnew hx⟩
 ·exact hext 0 _ T.z
 ·intro v d hv
  rcases List.mem_append.1 hv with hv | hv
  ·exact List.mem_append_left _ (T.pre v d hv)
  ·obtain ⟨e1, _⟩ := List.append_inj' (List.mem_singleton.1 hv) rfl
   rw [e1]; exact List.mem_append_left _ (T.mem hw)
 ·intro i hi v d hv hz hm
  by_cases h2 : i < sg.length
  ·have hv := hold i h2 v hv
   by_cases hin : i = now
   ·subst hin
    rw [hnow hi] at hz
    have hvw : v = w := Option.some.inj (hv.symm.trans hw)
    subst hvw
    unfold uM at hz
    dsimp only at hz
    by_cases hdc : d.toNat = c.toNat
    ·rw [if_pos hdc] at hz; exact hne0 hz
    ·rw [if_neg hdc] at hz
     rcases List.mem_append.1 hm with hm | hm
     ·exact T.no i h2 _ d hw hz hm
     ·obtain ⟨_, e2⟩ := List.append_inj' (List.mem_singleton.1 hm) rfl
      exact hdc (by rw [(List.cons.inj e2).1])
   ·rw [hat i hi h2 hin] at hz
    rcases List.mem_append.1 hm with hm | hm
    ·exact T.no i h2 v d hv hz hm
    ·obtain ⟨e1, _⟩ := List.append_inj' (List.mem_singleton.1 hm) rfl
     rw [e1] at hv
     exact hin (iV T.nd hv hw)
  ·obtain ⟨_, rfl⟩ := hend i hi h2
   have := hlast v hv
   subst this
   rcases List.mem_append.1 hm with hm | hm
   ·exact hnew (T.pre _ _ hm)
   ·have := congrArg List.length (List.mem_singleton.1 hm)
    simp at this
 ·intro i hi v d hv hz
  by_cases h2 : i < sg.length
  ·have hv := hold i h2 v hv
   by_cases hin : i = now
   ·subst hin
    have hvw : v = w := Option.some.inj (hv.symm.trans hw)
    subst hvw
    rw [hnow hi] at hz ⊢
    unfold uM at hz ⊢
    dsimp only at hz ⊢
    by_cases hdc : d.toNat = c.toNat
    ·rw [if_pos hdc, tn hdc]; exact hlast2
    ·rw [if_neg hdc] at hz ⊢; exact hext _ _ (T.yes i h2 _ d hw hz)
   ·rw [hat i hi h2 hin] at hz ⊢
    exact hext _ _ (T.yes i h2 v d hv hz)
  ·obtain ⟨e, rfl⟩ := hend i hi h2
   rw [e] at hz
   exact absurd rfl hz
 ·intro i hi
  by_cases h2 : i < sg.length
  ·by_cases hin : i = now
   ·subst hin; rw [hnow hi]; exact T.fo i h2
   ·rw [hat i hi h2 hin]; exact T.fo i h2
  ·rw [(hend i hi h2).1]; exact ⟨rfl, rfl⟩
 ·intro i hi v hv
  by_cases h2 : i < sg.length
  ·have hv := hold i h2 v hv
   by_cases hin : i = now
   ·subst hin; rw [hnow hi]; exact T.en i h2 v hv
   ·rw [hat i hi h2 hin]; exact T.en i h2 v hv
  ·obtain ⟨e, rfl⟩ := hend i hi h2
   rw [e, hlast v hv, T.out _ hnew]; rfl
 ·intro v hv
  exact T.out v fun h => hv (List.mem_append_left _ h)
theorem ri.ended (T : ri sg ws E) {now : Nat} {w : Nm} (hw : ws[now]? = some w) (e : Nat) (q : Option Addr) (cq : Nat) :
  ri (sg.set now { sg[now]'(T.lt hw) with eq := q, ec := cq, en := (sg[now]'(T.lt hw)).en ++ [e] }) ws (fun v => if v = w then E v ++ [e] else E v) := by
 have hlt := T.lt hw
 have g : ∀ i (hi : i < (sg.set now { sg[now] with eq := q, ec := cq, en := sg[now].en ++ [e] }).length), (sg.set now { sg[now] with eq := q, ec := cq, en := sg[now].en ++ [e] })[i] = if now = i then { sg[now] with eq := q, ec := cq, en := sg[now].en ++ [e] } else sg[i]'(by rw [List.length_set] at hi; exact hi) := fun i hi => List.getElem_set ..
 refine ⟨by rw [List.length_set]; exact T.len, T.nd, T.z, T.pre, ?_, ?_, ?_, ?_, ?_⟩
 ·intro i hi v d hv hz
  rw [g] at hz
  rw [List.length_set] at hi
  split at hz
  ·rename_i h; subst h; exact T.no _ hi v d hv hz
  ·exact T.no i hi v d hv hz
 ·intro i hi v d hv hz
  rw [g] at hz ⊢
  rw [List.length_set] at hi
  by_cases h : now = i
  ·subst h
   rw [if_pos rfl] at hz ⊢
   exact T.yes _ hi v d hv hz
  ·rw [if_neg h] at hz ⊢; exact T.yes i hi v d hv hz
 ·intro i hi
  rw [g]
  rw [List.length_set] at hi
  split
  ·exact T.fo now hlt
  ·exact T.fo i hi
 ·intro i hi v hv
  rw [g]
  rw [List.length_set] at hi
  by_cases h : now = i
  ·subst h
   have hvw : v = w := Option.some.inj (hv.symm.trans hw)
   rw [if_pos rfl, if_pos hvw]
   show sg[now].en ++ [e] = _
   rw [T.en _ hi v hv]
  ·rw [if_neg h]
   have hvw : v ≠ w := fun h' => h (iV T.nd hw (h' ▸ hv))
   rw [if_neg hvw]; exact T.en i hi v hv
 ·intro v hv
  have hvw : v ≠ w := fun h => hv (by rw [h]; exact T.mem hw)
  show (if v = w then _ else _) = _
  rw [if_neg hvw]; exact T.out v hv
end
end Go.Proofs.YtjmfpeiidlpngaaGreatDoor.Au
namespace Go.Proofs.YtjmfpeiidlpngaaGreatDoor.Au
set_option linter.unusedSimpArgs false
set_option linter.unusedVariables false
set_option maxRecDepth 20000
open Go
open Go.IntKind (wrap)
theorem Kh {h : aA} {cs : Array Value} {vs : List Value} {T : TypeId} {K : Addr → aA → Prop} (e : cs = vs.toArray) (hk : ∀ a h', Fr (fun _ => False) h h' → a.block = h.size → Own h' a vs T → K a h') : alV h (.cells cs T) K := by
 subst e; exact aZ hk
theorem Kr {x : Int} (h1 : 0 ≤ x) (h2 : x < 65536) : wrap .u16 x = x := by
 unfold IntKind.wrap IntKind.bits IntKind.signed
 simp only [Bool.false_and, ge_iff_le]
 rw [if_neg (by simp)]
 omega
def AR (o : Tag) (k : Nat) (x : Nat) : Prop := k < o x ∧ o x < k + 70000
theorem ES (s : Nm) (i : Nat) (hi : i < s.length) : (cX s).take (i + 1) = (cX s).take i ++ [jJ s[i]] := by
 rw [zW, zW, show s.take (i + 1) = s.take i ++ [s[i]] by rw [List.take_append_getElem]]
 unfold cX; rw [List.map_append]; rfl
theorem BI {l w : Nm} {i : Nat} (hi : i < l.length) : w <+: l.take (i + 1) ↔ w <+: l.take i ∨ w = l.take (i + 1) := by
 rw [show l.take (i + 1) = l.take i ++ [l[i]] by rw [List.take_append_getElem]]
 rw [List.prefix_concat_iff]
 exact ⟨fun h => h.symm, fun h => h.symm⟩
section
variable {o : Tag} {k : Nat} {h : aA} {a : Addr} {sg : List St} {pq : Option Addr} {pn pc : Nat} {ws : List Nm} {E : Nm → List Nat}
theorem J7 [Gh] (A : jF o k h a sg pq pn pc) (T : ri sg ws E) (e : Nat) (he : e < 2 ^ 60) (s : Nm) (hN : ws.length + s.length ≤ 40000) (hE : ∀ w, (E w).length ≤ 1000) {Q : Value → aA → Prop}
  (hk : ∀ o' h' sg' ws', Old h o o' → (∀ x, h.size ≤ x → k < o' x ∧ o' x < k + 70000) → Fr (AR o k) h h' → jF o' k h' a sg' pq pn pc → ri sg' ws' (fun v => if v = cX s then E v ++ [e] else E v) → (∀ w, w ∈ ws' ↔ w ∈ ws ∨ w <+: cX s) → ws'.length ≤ ws.length + s.length → Q (.tuple #[]) h') :
  aD Tryz.prog iA #[.pointer (some a), .int .i64 e, .string (bs s)] h Q := by
 apply qt
 unfold lx
 rw [bR]
 have hz0 := A.lt
 refine aJ.go (fun n st h' => ∃ (i nw : Nat) (sg' : List St) (ws' : List Nm) (o' : Tag), st.1 = (nw : Int) ∧ st.2 = (i : Int) ∧ i ≤ s.length ∧ n = s.length - i ∧ jF o' k h' a sg' pq pn pc ∧ ri sg' ws' E ∧ ws'[nw]? = some ((cX s).take i) ∧ (∀ w, w ∈ ws' ↔ w ∈ ws ∨ w <+: (cX s).take i) ∧ ws'.length ≤ ws.length + i ∧ Old h o o' ∧ Fr (AR o k) h h' ∧ (∀ x, h.size ≤ x → x < h'.size → k < o' x ∧ o' x < k + 70000)) s.length
  ⟨0, 0, sg, ws, o, rfl, rfl, by omega, rfl, A, T, by rw [List.take_zero]; exact T.z, fun w => ⟨.inl, fun h => ?_⟩, by omega, Old.refl _ _, Fr.refl _ _, fun x h1 h2 => by omega⟩ ?_
 ·rcases h with h | h
  ·exact h
  ·rw [List.take_zero, List.prefix_nil] at h; rw [h]; exact T.mem T.z
 rintro n ⟨n6, t12⟩ h1 ⟨i, nw, sg1, ws1, o1, hn, ht, hi, rfl, A1, T1, hnw, hmem, hlen, hO1, f1, hr1⟩ Kn hK
 have hn : n6 = (nw : Int) := hn
 have ht : t12 = (i : Int) := ht
 subst hn ht
 dsimp only
 unfold iv
 have hl1 := T1.len
 have hlt := T1.lt hnw
 have z1 := f1.size
 refine ifD (fun e1 => ?_) fun e1 => ?_
 ·have hil : i < s.length := by omega
  refine ixS s i rfl hil ?_
  have hb := pG s[i]
  refine xC _ hb.1 hb.2 ⟨_, rfl, ?_⟩
  rw [← wB]
  have hc256 : (jJ s[i]).toNat < 256 := (jJ s[i]).toNat_lt
  have hcn : (bN (jJ s[i])).toNat * 1 = (jJ s[i]).toNat := by unfold bN; omega
  have hsn := ES s i hil
  generalize jJ s[i] = c at *
  obtain ⟨q, cq, hcell, hcs⟩ := A1.cell
  obtain ⟨ad, hq, ci⟩ := hcs nw hlt
  subst hq
  refine aS (aC hcell (bO nw rfl hlt (aS (bO c.toNat rfl hc256 ?_))))
  rw [hcn, Int.toNat_natCast]
  refine aB (ci.at (AQ _ hc256)) ?_
  have hpl : i < (cX s).length := by rw [j0]; exact hil
  by_cases h0 : sg1[nw].nx c.toNat = 0
  ·rw [h0]
   refine ifE (fun _ => ?_) fun hh => absurd (by decide) hh
   refine aS (aC hcell (aS (aC hcell ?_)))
   refine Kh (vs := stV py) (by kernel_rfl) fun t43 h2 f2 e2 o2 => ?_
   have z2 := f2.size
   have A2 : jF (upT o1 h1.size (k + 2)) k h2 a sg1 pq pn pc := A1.fr f2 (fun _ _ h => h.elim) (Old.up (Nat.le_refl _))
   have hO2 : ∀ x, x < h1.size → upT o1 h1.size (k + 2) x = o1 x := fun x hx => dU hx
   refine A2.grow o2 (by omega) (f2.hcell hcell id) fun o3 h3 hO3 f3 hr3 A3 => aS ?_
   have z3 := f3.size
   obtain ⟨q3, c3, hcell3, hcs3⟩ := A3.cell
   have hlt3 : nw < (sg1 ++ [py]).length := by rw [List.length_append]; omega
   obtain ⟨ad3, hq3, ci3⟩ := hcs3 nw hlt3
   refine aC hcell3 ?_
   subst hq3
   refine bO nw rfl hlt3 (aS (bO c.toNat rfl hc256 ?_))
   rw [Kr (by omega) (by omega)]
   have hget : (sg1 ++ [py])[nw] = sg1[nw] := List.getElem_append_left hlt
   refine A3.put hcell3 rfl nw hlt3 (j := c.toNat) (by omega) (v := .int .u16 (sg1.length : Nat)) rfl { sg1[nw] with nx := uM sg1[nw].nx c.toNat sg1.length } (by rw [hget]; exact Hd _ hc256 _) (by rw [hget]) (by rw [hget]) (by rw [hget]) fun h4 f4 A4 => ?_
   have z4 := f4.size
   rw [wr (by omega) (by omega)]
   have T4 := T1.grow hnw c h0
   have hO13 : Old h o o3 := fun x hx => by rw [hO3 x (by omega), hO2 x (by omega)]; exact hO1 x hx
   refine hK (s.length - (i + 1)) _ _ (by omega) ⟨i + 1, sg1.length, _, _, o3, rfl, rfl, hil, rfl, A4, T4, ?_, fun w => ?_, by rw [List.length_append, List.length_singleton]; omega, hO13, ?_, fun x hx hx4 => ?_⟩
   ·rw [hl1, List.getElem?_append_right (Nat.le_refl _), Nat.sub_self, hsn]; rfl
   ·rw [List.mem_append, hmem, List.mem_singleton, BI hpl, hsn]
    exact ⟨fun h => by rcases h with (h | h) | h; exact .inl h; exact .inr (.inl h); exact .inr (.inr h), fun h => by rcases h with h | h | h; exact .inl (.inl h); exact .inl (.inr h); exact .inr h⟩
   ·refine ((f1.tr f2 fun _ _ h => h.elim).tr f3 fun x hx hh => ?_).tr f4 fun x hx hh => ?_
    ·rw [hO2 x (by omega), hO1 x hx] at hh; unfold AR; omega
    ·rw [hO13 x hx] at hh; unfold AR; omega
   ·by_cases hx2 : x < h2.size
    ·rw [hO3 x hx2]
     by_cases hx1 : x < h1.size
     ·rw [hO2 x hx1]; exact hr1 x hx hx1
     ·rw [jR (by omega)]; omega
    ·rw [hr3 x (by omega)]; omega
  ·have hy := T1.yes nw hlt _ c hnw h0
   have hylt := T1.lt hy
   rw [wr (x := ((sg1[nw].nx c.toNat : Nat) : Int)) (by omega) (by omega)]
   refine ifE (fun hh => absurd (by omega) h0) fun _ => ?_
   rw [wr (by omega) (by omega)]
   refine hK (s.length - (i + 1)) _ _ (by omega) ⟨i + 1, sg1[nw].nx c.toNat, sg1, ws1, o1, rfl, rfl, hil, rfl, A1, T1, by rw [hsn]; exact hy, fun w => ?_, by omega, hO1, f1, hr1⟩
   rw [hmem, BI hpl, hsn]
   refine ⟨fun h => by rcases h with h | h; exact .inl h; exact .inr (.inl h), fun h => ?_⟩
   rcases h with h | h | h
   ·exact .inl h
   ·exact .inr h
   ·subst h
    exact (hmem _).1 (T1.mem hy)
 ·have hie : i = s.length := by omega
  subst hie
  rw [List.take_of_length_le (by rw [j0]; exact Nat.le_refl _)] at hnw hmem
  unfold ir
  obtain ⟨q, cq, hcell, hcs⟩ := A1.cell
  obtain ⟨ad, hq, ci⟩ := hcs nw hlt
  subst hq
  refine aS (aC hcell (aS (aC hcell (bO nw rfl hlt (aS ?_)))))
  rw [Int.toNat_natCast]
  refine aC (ci.at (Bh _)) ?_
  refine aZ (vs := inV e) fun t74 h2 f2 e2 o2 => ?_
  have z2 := f2.size
  have A2 : jF (upT o1 h1.size (k + 2)) k h2 a sg1 pq pn pc := A1.fr f2 (fun _ _ h => h.elim) (Old.up (Nat.le_refl _))
  have hO2 : ∀ x, x < h1.size → upT o1 h1.size (k + 2) x = o1 x := fun x hx => dU hx
  have hcell2 := f2.hcell hcell id
  have ci2 := ci.fr0 f2
  refine ⟨⟨_, _, _, hcell2, rfl⟩, ⟨_, _, _, hcell2, rfl⟩, ⟨_, _, _, ci2.at (Bh _), rfl⟩, ?_⟩
  have hen := T1.en nw hlt _ hnw
  have hel : sg1[nw].en.length ≤ 2 ^ 20 := by rw [hen]; have := hE (cX s); omega
  refine A2.addEnd nw hlt e o2 hel hcell2 fun o3 h3 q' c' hO3 f3 hr3 A3 => ?_
  have z3 := f3.size
  have hO13 : Old h o o3 := fun x hx => by rw [hO3 x (by omega), hO2 x (by omega)]; exact hO1 x hx
  refine hk o3 h3 _ ws1 hO13 (fun x hx => ?_) ((f1.tr f2 fun _ _ h => h.elim).tr f3 fun x hx hh => ?_) A3 (T1.ended hnw e q' c') hmem hlen
  ·by_cases hx2 : x < h2.size
   ·rw [hO3 x hx2]
    by_cases hx1 : x < h1.size
    ·rw [hO2 x hx1]; exact hr1 x hx hx1
    ·rw [jR (by omega)]; omega
   ·rw [hr3 x (by omega)]; omega
  ·rw [hO2 x (by omega), hO1 x hx] at hh; unfold AR; omega
end
end Go.Proofs.YtjmfpeiidlpngaaGreatDoor.Au
namespace Go.Proofs.YtjmfpeiidlpngaaGreatDoor.Au
set_option linter.unusedSimpArgs false
set_option linter.unusedVariables false
set_option maxRecDepth 20000
open Go
open Go.IntKind (wrap)
theorem xN (p : Pt) : (ptV p).length = 2 := rfl
theorem Ka : gM Tryz.prog dZ bC Tryz.t160 (.agg #[.string ⟨#[]⟩, .bool false]) :=
 ⟨Tryz.underlying84, by kernel_rfl, by kernel_rfl, by kernel_rfl, by decide +kernel⟩
theorem DW [Gh] (s : Sl Pt) {ok : aA → Pt → Prop} {h : aA} (os : bF 2 ptV ok h s) (okf : ∀ h h' x, Fr (fun _ => False) h h' → ok h x → ok h' x) (hl : s.xs.length ≤ 2 ^ 20) {Q : Value → aA → Prop}
  (hk : ∀ q c h', Fr (fun _ => False) h h' → Row 2 ptV h' q c s.xs → (∀ x, InA q x → h.size ≤ x) → Q (.slice q s.xs.length c) h') :
  aD Tryz.prog bZ #[.slice s.p s.xs.length s.cap] h Q := by
 apply kN
 unfold gD
 cases hp : s.p with
 | none =>
  rw [if_pos (by rfl)]
  have he : s.xs = [] := by
   cases hx : s.xs with
   | nil => rfl
   | cons a l =>
    obtain ⟨ad, h1, _⟩ := os.at_ 0 (by rw [hx]; simp)
    rw [hp] at h1; cases h1
  have := hk none 0 h (Fr.refl _ _) (by rw [he]; exact Row.nil) fun x hx => (dR hx).elim
  rw [he] at this; exact this
 | some ad =>
  rw [if_neg (by simp)]
  refine aZ (vs := []) fun t5 h1 f1 e1 o1 => ?_
  have z1 := f1.size
  have R0 : Row 2 ptV h1 (some t5) 0 [] := Row.of_own (L := []) xN o1
  have src := (bF.fr0 okf f1 os).src xN
  rw [hp] at src
  refine R0.appL Ka Tryz.underlying84 (by intro k e; cases e) (by kernel_rfl) (by decide +kernel) xN (fun _ => rfl) src (by simp; omega) fun p' cap' h' R' f hn => ⟨_, _, _, rfl, ?_⟩
  refine hk p' cap' h' (f1.tr f fun x hx hh => ?_) R' fun x hx => ?_
  ·obtain ⟨a', h1, h2⟩ := hh; cases h1; omega
  ·rcases hn x hx with hh | hh
   ·obtain ⟨a', h1, h2⟩ := hh; cases h1; omega
   ·omega
def qq : List Pt → Int
 | [] => 0
 | p :: l => if p.t = [] then 2 else if p.t.length > 64 then 3 else qq l
theorem ur : ∀ {L : List Pt}, qq L = 0 → ∀ p ∈ L, p.t ≠ [] ∧ p.t.length ≤ 64
 | [], _, p, hp => by cases hp
 | q :: L, h, p, hp => by
  unfold qq at h
  split at h
  ·cases h
  ·split at h
   ·cases h
   ·rcases List.mem_cons.1 hp with rfl | hp
    ·exact ⟨by assumption, by omega⟩
    ·exact ur h p hp
end Go.Proofs.YtjmfpeiidlpngaaGreatDoor.Au
namespace Go.Proofs.YtjmfpeiidlpngaaGreatDoor.Au
set_option linter.unusedSimpArgs false
set_option linter.unusedVariables false
set_option maxRecDepth 20000
open Go
theorem Ea {h : aA} {a : Addr} (f : Nat → Nat) : ∀ (n i : Nat) {K : List Value → Prop}, (∀ j, j < n → hcell h (a.add (i + j)) = some (.int .u16 (f (i + j)))) → K ((List.range' i n).map fun c => .int .u16 (f c)) → ldN h a (List.replicate n (.int .u16)) i K
 | 0, i, K, _, hk => hk
 | n + 1, i, K, hc, hk => by
  rw [List.replicate_succ]
  unfold ldN ld1
  refine ⟨_, hc 0 (by omega), ?_⟩
  refine Ea f n (i + 1) (fun j hj => by have := hc (j + 1) (by omega); rw [show i + 1 + j = i + (j + 1) by omega]; exact this) ?_
  rw [List.range'_succ, List.map_cons] at hk
  exact hk
theorem Ik : kinds Tryz.prog 20 202 = List.replicate 256 (.int .u16) := by kernel_rfl
theorem FW {h : aA} {ad : Addr} {s : St} (c : aW h ad (stV s)) {K : List Value → Prop} (hk : K (nxV s.nx)) : ldN h ad (kinds Tryz.prog 20 202) 0 K := by
 rw [Ik]
 refine Ea s.nx 256 0 (fun j hj => ?_) ?_
 ·rw [Nat.zero_add]; exact c.at (AQ s hj)
 ·unfold nxV at hk; rw [List.range_eq_range'] at hk; exact hk
theorem FK (f : Nat → Nat) {c : Nat} (hc : c < 256) : (nxV f).toArray[c]? = some (.int .u16 (f c)) := by
 rw [List.getElem?_toArray]
 have h : c < (nxV f).length := by rw [oq]; exact hc
 rw [List.getElem?_eq_getElem h, AX]
end Go.Proofs.YtjmfpeiidlpngaaGreatDoor.Au
namespace Go.Proofs.YtjmfpeiidlpngaaGreatDoor.Au
set_option linter.unusedSimpArgs false
set_option linter.unusedVariables false
set_option maxRecDepth 20000
open Go
open Go.IntKind (wrap)
def iC (L : List Pt) (i : Nat) (w : Nm) : List Nat := (List.range i).filter fun j => decide (cX (L.getD j ⟨[], false⟩).t = w)
theorem Df (L : List Pt) (i : Nat) (hi : i < L.length) : (fun v => if v = cX L[i].t then iC L i v ++ [i] else iC L i v) = iC L (i + 1) := by
 funext v
 have e : L.getD i ⟨[], false⟩ = L[i] := by rw [List.getD_eq_getElem?_getD, List.getElem?_eq_getElem hi]; rfl
 unfold iC
 rw [List.range_succ, List.filter_append, List.filter_cons, List.filter_nil, e]
 by_cases h : v = cX L[i].t
 ·rw [if_pos h, if_pos (decide_eq_true h.symm)]
 ·rw [if_neg h, if_neg (fun hh => h (of_decide_eq_true hh).symm), List.append_nil]
theorem An (L : List Pt) (i : Nat) (w : Nm) : (iC L i w).length ≤ i := by
 unfold iC
 exact Nat.le_trans (List.length_filter_le ..) (by rw [List.length_range]; exact Nat.le_refl _)
theorem Kk (L : List Pt) : ri [py] [[]] (iC L 0) := by
 have h0 : ∀ {i : Nat}, i < [py].length → i = 0 := fun h => by simpa using h
 refine ⟨rfl, by simp, rfl, fun w c h => ?_, fun i hi w c hw hz hm => ?_, fun i hi w c hw hz => ?_, fun i hi => ?_, fun i hi w hw => ?_, fun w hw => rfl⟩
 ·simp at h
 ·simp at hm
 ·have := h0 hi; subst this; exact absurd rfl hz
 ·have := h0 hi; subst this; exact ⟨rfl, rfl⟩
 ·have := h0 hi; subst this; rfl
def u3 (L : List Pt) (i : Nat) (w : Nm) : Prop := w = [] ∨ ∃ j, ∃ hj : j < L.length, j < i ∧ w <+: cX L[j].t
theorem Je [Gh] {o : Tag} {k : Nat} {h : aA} {a : Addr} {pq : Option Addr} {pn pc : Nat} {q : Option Addr} {cap : Nat} {L : List Pt} (hL : L.length ≤ 512) (hp : ∀ p ∈ L, p.t.length ≤ 64) (S : ∀ h', Fr (AR o k) h h' → Hw h' q L) (A : jF o k h a [py] pq pn pc) {Q : Value → aA → Prop}
  (hk : ∀ o' h' sg ws, Old h o o' → (∀ x, h.size ≤ x → x < h'.size → k < o' x ∧ o' x < k + 70000) → Fr (AR o k) h h' → jF o' k h' a sg pq pn pc → ri sg ws (iC L L.length) → (∀ w, w ∈ ws ↔ u3 L L.length w) → ws.length ≤ 40000 → iu a Q h') :
  aJ (fun (s : Int) h Kn => fO a q L.length cap ((L.length : Nat) : Int) Q s h Kn) 0 h := by
 have z0 := A.lt
 refine aJ.go (fun n st h' => ∃ (i : Nat) (sg : List St) (ws : List Nm) (o' : Tag), st = (i : Int) ∧ i ≤ L.length ∧ n = L.length - i ∧ jF o' k h' a sg pq pn pc ∧ ri sg ws (iC L i) ∧ (∀ w, w ∈ ws ↔ u3 L i w) ∧ ws.length ≤ 1 + 64 * i ∧ Old h o o' ∧ Fr (AR o k) h h' ∧ (∀ x, h.size ≤ x → x < h'.size → k < o' x ∧ o' x < k + 70000)) L.length
  ⟨0, [py], [[]], o, rfl, by omega, rfl, A, Kk L, fun w => ?_, by simp, Old.refl _ _, Fr.refl _ _, fun x h1 h2 => by omega⟩ ?_
 ·unfold u3
  rw [List.mem_singleton]
  refine ⟨.inl, fun h => ?_⟩
  rcases h with h | ⟨j, _, hj, _⟩
  ·exact h
  ·omega
 rintro n - h1 ⟨i, sg, ws, o1, rfl, hi, rfl, A1, T1, hm1, hlen, hO1, f1, hr1⟩ Kn hK
 unfold fO
 have z1 := f1.size
 refine ifD (fun e => ?_) fun e => ?_
 ·have hil : i < L.length := by omega
  refine (S h1 f1).get i rfl hil fun ad ci => ?_
  rw [Int.toNat_natCast]
  refine bH (ci.at0 rfl) (aN (ci.at (j := 1) rfl) ?_)
  refine aZ (vs := [.string (bs []), .bool false]) fun t8 h2 f2 e2 o2 => ?_
  refine jr o2 (ws := [.string (bs L[i].t), .bool L[i].nc]) (by rfl) (by rfl) fun h3 f3 s3 o3 => ?_
  have F3 : Fr (fun _ => False) h1 h3 := f2.tr f3 fun b hb hi => by omega
  have z3 := F3.size
  refine bH (o3.cells.at0 rfl) ?_
  have A3 : jF (upT o1 h1.size (k + 2)) k h3 a sg pq pn pc := A1.fr F3 (fun _ _ h => h.elim) (Old.up (Nat.le_refl _))
  have hO3 : ∀ x, x < h1.size → upT o1 h1.size (k + 2) x = o1 x := fun x hx => dU hx
  have hpi := hp _ (List.getElem_mem hil)
  refine J7 A3 T1 i (by omega) L[i].t (by omega) (fun w => by have := An L i w; omega) fun o4 h4 sg4 ws4 hO4 hr4 f4 A4 T4 hm4 hl4 => ⟨rfl, ?_⟩
  have z4 := f4.size
  rw [wr (by omega) (by omega)]
  rw [Df L i hil] at T4
  refine hK (L.length - (i + 1)) _ _ (by omega) ⟨i + 1, sg4, ws4, o4, rfl, hil, rfl, A4, T4, fun w => ?_, by omega, fun x hx => by rw [hO4 x (by omega), hO3 x (by omega)]; exact hO1 x hx, (f1.tr F3 fun _ _ h => h.elim).tr f4 fun x hx hh => ?_, fun x hx hx4 => ?_⟩
  ·rw [hm4, hm1]
   unfold u3
   constructor
   ·rintro ((h | ⟨j, hj, hji, hw⟩) | h)
    ·exact .inl h
    ·exact .inr ⟨j, hj, by omega, hw⟩
    ·exact .inr ⟨i, hil, by omega, h⟩
   ·rintro (h | ⟨j, hj, hji, hw⟩)
    ·exact .inl (.inl h)
    ·by_cases hj2 : j = i
     ·subst hj2; exact .inr hw
     ·exact .inl (.inr ⟨j, hj, by omega, hw⟩)
  ·unfold AR at hh ⊢; rw [hO3 x (by omega), hO1 x hx] at hh; exact hh
  ·by_cases hx3 : x < h3.size
   ·rw [hO4 x hx3]
    by_cases hx1 : x < h1.size
    ·rw [hO3 x hx1]; exact hr1 x hx hx1
    ·rw [jR (by omega)]; omega
   ·exact hr4 x (by omega)
 ·have : i = L.length := by omega
  subst this
  exact hk o1 h1 sg ws hO1 hr1 f1 A1 T1 hm1 (by omega)
end Go.Proofs.YtjmfpeiidlpngaaGreatDoor.Au
namespace Go.Proofs.YtjmfpeiidlpngaaGreatDoor.Au
set_option linter.unusedSimpArgs false
set_option linter.unusedVariables false
set_option maxRecDepth 20000
open Go
open Go.IntKind (wrap)
theorem Kw {o : Tag} {k m : Nat} (n0 n1 n2 n3 m' : Nat) : ∀ x, n0 ≤ x → x < m → k ≤ upT (upT (upT (upT o n0 k) n1 (k + 2)) n2 k) n3 (k + 1) x ∧ upT (upT (upT (upT o n0 k) n1 (k + 2)) n2 k) n3 (k + 1) x < k + 70000 := fun x hx _ => by
 unfold upT
 split
 ·split
  ·split
   ·rw [if_neg (by omega)]; omega
   ·omega
  ·omega
 ·omega
theorem Ks {o : Tag} {k m : Nat} (n0 n1 n2 n3 m' : Nat) : ∀ x, n0 ≤ x → x < m → k ≤ upT (upT (upT (upT o n0 k) n1 k) n2 (k + 2)) n3 (k + 1) x ∧ upT (upT (upT (upT o n0 k) n1 k) n2 (k + 2)) n3 (k + 1) x < k + 70000 := fun x hx _ => by
 unfold upT
 split
 ·split
  ·split
   ·rw [if_neg (by omega)]; omega
   ·omega
  ·omega
 ·omega
theorem EM (p : Pt) (l : List Pt) : qq (p :: l) = if p.t = [] then 2 else if p.t.length > 64 then 3 else qq l := rfl
theorem E8 [Gh] (s : Sl Pt) {ok : aA → Pt → Prop} {h : aA} (os : bF 2 ptV ok h s) (okf : ∀ h h' x, Fr (fun _ => False) h h' → ok h x → ok h' x) (hl : s.xs.length ≤ 2 ^ 20) (o : Tag) (k : Nat) (hold : ∀ x, x < h.size → o x ≤ k) {Q : Value → aA → Prop}
  (hbad : ∀ h', Fr (fun _ => False) h h' → s.xs.length > 512 → Q (.tuple #[.pointer none, .int .i64 3]) h')
  (herr : ∀ h', Fr (fun _ => False) h h' → s.xs.length ≤ 512 → qq s.xs ≠ 0 → Q (.tuple #[.pointer none, .int .i64 (qq s.xs)]) h')
  (hk : ∀ a o' h' sg ws pq pc, Old h o o' → (∀ x, h.size ≤ x → x < h'.size → k ≤ o' x ∧ o' x < k + 70000) → Fr (fun _ => False) h h' → jF o' k h' a sg pq s.xs.length pc → Row 2 ptV h' pq pc s.xs → (∀ x, InA pq x → h.size ≤ x ∧ o' x = k) → ri sg ws (iC s.xs s.xs.length) → (∀ w, w ∈ ws ↔ u3 s.xs s.xs.length w) → ws.length ≤ 40000 → s.xs.length ≤ 512 → qq s.xs = 0 → iu a Q h') :
  aD Tryz.prog jW #[.slice s.p s.xs.length s.cap] h Q := by
 apply vG
 unfold qL
 refine ifD (fun e => hbad h (Fr.refl _ _) (by omega)) fun e => ?_
 have hl512 : s.xs.length ≤ 512 := by omega
 have S : ∀ h', Fr (fun _ => False) h h' → Hw h' s.p s.xs := fun h' f i hi => by
  obtain ⟨ad, h1, h2, _⟩ := os.at_ i hi; exact ⟨ad, h1, h2.fr0 f⟩
 refine aJ.go (fun n st h' => ∃ i : Nat, st = (i : Int) ∧ i ≤ s.xs.length ∧ n = s.xs.length - i ∧ Fr (fun _ => False) h h' ∧ qq s.xs = qq (s.xs.drop i)) s.xs.length ⟨0, rfl, by omega, rfl, Fr.refl _ _, by rw [List.drop_zero]⟩ ?_
 rintro n - h1 ⟨i, rfl, hi, rfl, f1, he⟩ Kn hK
 unfold mb
 refine ifD (fun e2 => ?_) fun e2 => ?_
 ·have hil : i < s.xs.length := by omega
  rw [List.drop_eq_getElem_cons hil] at he
  rw [EM] at he
  refine (S h1 f1).get i rfl hil fun ad ci => ?_
  rw [Int.toNat_natCast]
  refine bH (ci.at0 rfl) (aN (ci.at (j := 1) rfl) ?_)
  refine aZ (vs := [.string (bs []), .bool false]) fun t5 h2 f2 e2 o2 => ?_
  refine jr o2 (ws := [.string (bs s.xs[i].t), .bool s.xs[i].nc]) (by rfl) (by rfl) fun h3 f3 s3 o3 => ?_
  have F3 : Fr (fun _ => False) h h3 := f1.trans (f2.tr f3 fun b hb hi => by omega)
  refine bH (o3.cells.at0 rfl) (ifS (m := []) (fun e3 => ?_) fun e3 => ?_)
  ·rw [if_pos e3] at he
   have := herr h3 F3 hl512
   rw [he] at this; exact this (by decide)
  rw [if_neg e3] at he
  refine bH (o3.cells.at0 rfl) ?_
  rw [bR]
  refine ifD (fun e4 => ?_) fun e4 => ?_
  ·rw [if_pos (by omega)] at he
   have := herr h3 F3 hl512
   rw [he] at this; exact this (by decide)
  rw [if_neg (by omega)] at he
  rw [wr (by omega) (by omega)]
  exact hK (s.xs.length - (i + 1)) _ _ (by omega) ⟨i + 1, rfl, hil, rfl, F3, he⟩
 ·have hie : i = s.xs.length := by omega
  subst hie
  rw [List.drop_length] at he
  have he : qq s.xs = 0 := he
  have hps : ∀ p ∈ s.xs, p.t.length ≤ 64 := fun p hp => (ur he p hp).2
  have os1 := bF.fr0 okf f1 os
  have z1 := f1.size
  have hst : (List.replicate 1 (Value.agg (stV py).toArray).cells.toList).flatten = [py].flatMap stV := by
   show (stV py ++ []) = stV py ++ []
   rfl
  have hby : 1 * (Tryz.t204).bytes ≤ 2 ^ 48 := by decide +kernel
  unfold l7
  have fin : ∀ {h4 : aA} {a : Addr} {o4 : Tag} {pq : Option Addr} {pc : Nat}, Fr (fun _ => False) h h4 → Old h o o4 → (∀ x, h.size ≤ x → x < h4.size → k ≤ o4 x ∧ o4 x < k + 70000) → jF o4 k h4 a [py] pq s.xs.length pc → Row 2 ptV h4 pq pc s.xs → (∀ x, InA pq x → h.size ≤ x ∧ o4 x = k) →
    aJ (fun (st : Int) h Kn => fO a s.p s.xs.length s.cap ((s.xs.length : Nat) : Int) Q st h Kn) 0 h4 := fun {h4 a o4 pq pc} f4 hO4 hr4 A4 R4 hq4 => by
   have z4 := f4.size
   have hno : ∀ x, x < h.size → ¬ AR o4 k x := fun x hx hh => by unfold AR at hh; rw [hO4 x hx] at hh; have := hold x hx; omega
   refine Je hl512 hps (fun h' f' => S h' (f4.tr f' fun x hx hh => hno x hx hh)) A4 fun o5 h5 sg ws hO5 hr5 f5 A5 T5 hm5 hl5 => ?_
   have z5 := f5.size
   refine hk a o5 h5 sg ws pq pc (fun x hx => by rw [hO5 x (by omega)]; exact hO4 x hx) (fun x hx hx5 => ?_) (f4.tr f5 fun x hx hh => hno x hx hh) A5 (R4.fr f5 fun x hx hh => by have := hq4 x hx; unfold AR at hh; omega) (fun x hx => ?_) T5 hm5 hl5 hl512 he
   ·by_cases hx4 : x < h4.size
    ·rw [hO5 x hx4]; exact hr4 x hx hx4
    ·have := hr5 x (by omega) hx5; omega
   ·have := hq4 x hx
    rw [hO5 x (R4.lt hx)]; exact this
  constructor
  ·refine xH Hq 1 rfl hby fun t28 h3 f3 e3 o3 => ⟨_, _, _, rfl, ?_⟩
   rw [hst] at o3
   have z3 := f3.size
   have l3 := o3.lt
   have Q3 := Row.of_own qw o3
   refine DW s (bF.fr0 okf f3 os1) okf hl fun pq pc h4 f4 R4 hq4 => ⟨_, _, _, rfl, ?_⟩
   have z4 := f4.size
   refine aZ (vs := [.slice (some t28) 1 1, .slice pq s.xs.length pc]) fun t32 h5 f5 e5 o5 => ?_
   have z5 := f5.size
   refine fin (o4 := upT (upT (upT (upT o h.size k) h1.size (k + 2)) h3.size k) h4.size (k + 1)) (((f1.trans f3).trans f4).trans f5) (fun x hx => by rw [dU (by omega), dU (by omega), dU (by omega), dU (by omega)]) (Kw _ _ _ _ 0) ⟨⟨some t28, 1, o5, (Q3.fr0 f4).fr0 f5, fun x hx => ?_⟩, fun i hi => ?_, ?_⟩ (R4.fr0 f5) fun x hx => ?_
   ·obtain ⟨ad, h1, h2⟩ := hx; cases h1
    rw [dU (by omega), dU (by omega), jR (by omega)]
   ·have : i = 0 := by simpa using hi
    subst this
    exact ⟨Row.nil, fun x hx => (dR hx).elim⟩
   ·rw [jR (by omega)]
   ·have h1 := hq4 x hx
    have h2 := R4.lt hx
    exact ⟨by omega, by rw [dU h2, jR (by omega)]⟩
  ·refine DW s os1 okf hl fun pq pc h3 f3 R3 hq3 => ⟨_, _, _, rfl, ?_⟩
   have z3 := f3.size
   refine xH Hq 1 rfl hby fun t28 h4 f4 e4 o4 => ⟨_, _, _, rfl, ?_⟩
   rw [hst] at o4
   have z4 := f4.size
   have l4 := o4.lt
   have Q4 := Row.of_own qw o4
   refine aZ (vs := [.slice (some t28) 1 1, .slice pq s.xs.length pc]) fun t32 h5 f5 e5 o5 => ?_
   have z5 := f5.size
   refine fin (o4 := upT (upT (upT (upT o h.size k) h1.size k) h3.size (k + 2)) h4.size (k + 1)) (((f1.trans f3).trans f4).trans f5) (fun x hx => by rw [dU (by omega), dU (by omega), dU (by omega), dU (by omega)]) (Ks _ _ _ _ 0) ⟨⟨some t28, 1, o5, Q4.fr0 f5, fun x hx => ?_⟩, fun i hi => ?_, ?_⟩ ((R3.fr0 f4).fr0 f5) fun x hx => ?_
   ·obtain ⟨ad, h1, h2⟩ := hx; cases h1
    rw [dU (by omega), jR (by omega)]
   ·have : i = 0 := by simpa using hi
    subst this
    exact ⟨Row.nil, fun x hx => (dR hx).elim⟩
   ·rw [jR (by omega)]
   ·have h1 := hq3 x hx
    have h2 := R3.lt hx
    exact ⟨by omega, by rw [dU (by omega), dU h2, jR (by omega)]⟩
end Go.Proofs.YtjmfpeiidlpngaaGreatDoor.Au
namespace Go.Proofs.YtjmfpeiidlpngaaGreatDoor.Au
set_option linter.unusedSimpArgs false
set_option linter.unusedVariables false
set_option maxRecDepth 20000
open Go
structure Lk (sg : List St) (ws : List Nm) (E : Nm → List Nat) (D : Nat → Prop) (Qs : List Nat) : Prop where
 len : sg.length = ws.length
 nd : ws.Nodup
 z : ws[0]? = some []
 pre : ∀ w c, w ++ [c] ∈ ws → w ∈ ws
 root : D 0
 no : ∀ i (hi : i < sg.length) w (c : UInt8), ws[i]? = some w → ¬ D i → sg[i].nx c.toNat = 0 → w ++ [c] ∉ ws
 yes : ∀ i (hi : i < sg.length) w (c : UInt8), ws[i]? = some w → ¬ D i → sg[i].nx c.toNat ≠ 0 → ws[sg[i].nx c.toNat]? = some (w ++ [c])
 dn : ∀ i (hi : i < sg.length) w (c : UInt8), ws[i]? = some w → D i → ws[sg[i].nx c.toNat]? = some (ls ws (w ++ [c]))
 fa : ∀ i (hi : i < sg.length) w, ws[i]? = some w → D i ∨ i ∈ Qs → ws[sg[i].fa]? = some (fl ws w)
 ou : ∀ i (hi : i < sg.length) w, ws[i]? = some w → D i → ws[sg[i].ou]? = some (tB ws E w)
 en : ∀ i (hi : i < sg.length) w, ws[i]? = some w → sg[i].en = E w
 apart : ∀ i ∈ Qs, ¬ D i ∧ i < sg.length
 qnd : Qs.Nodup
 child : ∀ i j w c, ws[i]? = some (w ++ [c]) → ws[j]? = some w → D j → D i ∨ i ∈ Qs
 ord : ∀ p i q, Qs = p ++ i :: q → ∀ w, ws[i]? = some w → ∀ j v, ws[j]? = some v → v.length < w.length → D j ∨ j ∈ p
theorem Lk.all {sg : List St} {ws : List Nm} {E : Nm → List Nat} {D : Nat → Prop} (L : Lk sg ws E D []) : ∀ (n : Nat) (w : Nm), w.length ≤ n → ∀ i, ws[i]? = some w → D i := by
 intro n
 induction n with
 | zero =>
  intro w hw i hi
  have : w = [] := List.length_eq_zero_iff.1 (Nat.le_zero.1 hw)
  subst this
  rw [iV L.nd hi L.z]; exact L.root
 | succ n ih =>
  intro w hw i hi
  rcases List.eq_nil_or_concat w with h | ⟨u, c, h⟩
  ·subst h; rw [iV L.nd hi L.z]; exact L.root
  ·rw [List.concat_eq_append] at h
   subst h
   rw [List.length_append, List.length_singleton] at hw
   have hu := L.pre u c (List.mem_of_getElem? hi)
   obtain ⟨j, hj⟩ := List.getElem?_of_mem hu
   rcases L.child i j u c hi hj (ih u (by omega) j hj) with h | h
   ·exact h
   ·cases h
theorem Lk.words {sg : List St} {ws : List Nm} {E : Nm → List Nat} {D : Nat → Prop} {Qs : List Nat} (L : Lk sg ws E D Qs) : Pre ws := ⟨List.mem_of_getElem? L.z, L.pre⟩
theorem Lk.back {sg : List St} {ws : List Nm} {E : Nm → List Nat} {D : Nat → Prop} {i : Nat} {q : List Nat} (L : Lk sg ws E D (i :: q)) {w : Nm} (hw : ws[i]? = some w) (hi : i < sg.length) : ws[sg[i].fa]? = some (fl ws w) ∧ D sg[i].fa := by
 have hf := L.fa i hi w hw (.inr List.mem_cons_self)
 have hne : w ≠ [] := fun h => by
  subst h
  have := iV L.nd hw L.z
  subst this
  exact (L.apart 0 List.mem_cons_self).1 L.root
 refine ⟨hf, ?_⟩
 rcases L.ord [] i q rfl w hw _ _ hf (wA w hne) with h | h
 ·exact h
 ·cases h
end Go.Proofs.YtjmfpeiidlpngaaGreatDoor.Au
namespace Go.Proofs.YtjmfpeiidlpngaaGreatDoor.Au
set_option linter.unusedSimpArgs false
set_option linter.unusedVariables false
set_option maxRecDepth 20000
open Go
def gt (sg : List St) (i : Nat) : St := sg.getD i py
theorem gH {sg : List St} {i : Nat} (hi : i < sg.length) : sg[i] = gt sg i := by
 unfold gt; rw [List.getD_eq_getElem?_getD, List.getElem?_eq_getElem hi]; rfl
theorem oN {sg : List St} {i : Nat} (hi : i < sg.length) (x : St) (j : Nat) : gt (sg.set i x) j = if i = j then x else gt sg j := by
 unfold gt
 rw [List.getD_eq_getElem?_getD, List.getD_eq_getElem?_getD, List.getElem?_set]
 by_cases h : i = j
 ·subst h; rw [if_pos rfl, if_pos rfl, if_pos hi]; rfl
 ·rw [if_neg h, if_neg h]
def nV (f : Nat → Nat) (n : Nat) : List Nat := ((List.range n).filter fun d => decide (f d ≠ 0)).map f
theorem mu (f : Nat → Nat) (n : Nat) : nV f (n + 1) = if f n = 0 then nV f n else nV f n ++ [f n] := by
 unfold nV
 rw [List.range_succ, List.filter_append, List.filter_cons, List.filter_nil]
 by_cases h : f n = 0
 ·rw [if_pos h, if_neg (by simp [h]), List.append_nil]
 ·rw [if_neg h, if_pos (by simp [h]), List.map_append]; rfl
theorem pK {f : Nat → Nat} {n i : Nat} : i ∈ nV f n ↔ ∃ d, d < n ∧ f d ≠ 0 ∧ f d = i := by
 unfold nV
 rw [List.mem_map]
 constructor
 ·rintro ⟨d, h1, h2⟩
  rw [List.mem_filter, List.mem_range] at h1
  exact ⟨d, h1.1, of_decide_eq_true h1.2, h2⟩
 ·rintro ⟨d, h1, h2, h3⟩
  exact ⟨d, List.mem_filter.2 ⟨List.mem_range.2 h1, decide_eq_true h2⟩, h3⟩
structure Inn (s0 sg : List St) (now : Nat) (f0 bk : Nat → Nat) (o' c : Nat) : Prop where
 len : sg.length = s0.length
 en : ∀ i, (gt sg i).en = (gt s0 i).en
 ou : ∀ i, (gt sg i).ou = if i = now then o' else (gt s0 i).ou
 nx : ∀ i d, d < 256 → (gt sg i).nx d = if i = now then (if d < c ∧ f0 d = 0 then bk d else f0 d) else (gt s0 i).nx d
 fa1 : ∀ d, d < c → f0 d ≠ 0 → (gt sg (f0 d)).fa = bk d
 fa0 : ∀ i, (∀ d, d < c → f0 d ≠ 0 → f0 d ≠ i) → (gt sg i).fa = (gt s0 i).fa
section
variable {s0 sg : List St} {now : Nat} {f0 bk : Nat → Nat} {o' c : Nat}
theorem Inn.no (I : Inn s0 sg now f0 bk o' c) (hc : c < 256) (hn : now < sg.length) (h0 : f0 c = 0) : Inn s0 (sg.set now { gt sg now with nx := uM (gt sg now).nx c (bk c) }) now f0 bk o' (c + 1) := by
 refine ⟨by rw [List.length_set]; exact I.len, fun i => ?_, fun i => ?_, fun i d hd => ?_, fun d hd hf => ?_, fun i hi => ?_⟩
 ·rw [oN hn]; split
  ·rename_i h; subst h; exact I.en now
  ·exact I.en i
 ·rw [oN hn]; split
  ·rename_i h; subst h; exact I.ou now
  ·exact I.ou i
 ·rw [oN hn]
  by_cases h : now = i
  ·subst h
   rw [if_pos rfl, if_pos rfl]
   show (if d = c then bk c else _) = _
   by_cases hdc : d = c
   ·subst hdc
    rw [if_pos rfl, if_pos ⟨by omega, h0⟩]
   ·rw [if_neg hdc, I.nx now d hd, if_pos rfl]
    by_cases h1 : d < c ∧ f0 d = 0
    ·rw [if_pos h1, if_pos ⟨by omega, h1.2⟩]
    ·rw [if_neg h1, if_neg (fun hh => h1 ⟨by omega, hh.2⟩)]
  ·rw [if_neg h, I.nx i d hd, if_neg (fun hh => h hh.symm), if_neg (fun hh => h hh.symm)]
 ·have hd2 : d < c := by
   by_cases h : d = c
   ·subst h; exact absurd h0 hf
   ·omega
  rw [oN hn]; split
  ·rename_i h
   show (gt sg now).fa = _
   have := I.fa1 d hd2 hf
   rw [← h] at this; exact this
  ·exact I.fa1 d hd2 hf
 ·have := I.fa0 i fun d hd => hi d (by omega)
  rw [oN hn]; split
  ·rename_i h; subst h; exact this
  ·exact this
theorem Inn.yes (I : Inn s0 sg now f0 bk o' c) (hc : c < 256) (hn : f0 c < sg.length) (h0 : f0 c ≠ 0) (hu : ∀ d, d < c → f0 d ≠ 0 → f0 d ≠ f0 c) : Inn s0 (sg.set (f0 c) { gt sg (f0 c) with fa := bk c }) now f0 bk o' (c + 1) := by
 refine ⟨by rw [List.length_set]; exact I.len, fun i => ?_, fun i => ?_, fun i d hd => ?_, fun d hd hf => ?_, fun i hi => ?_⟩
 ·rw [oN hn]; split
  ·rename_i h; subst h; exact I.en _
  ·exact I.en i
 ·rw [oN hn]; split
  ·rename_i h; rw [← h]; exact I.ou _
  ·exact I.ou i
 ·have e : (gt (sg.set (f0 c) { gt sg (f0 c) with fa := bk c }) i).nx d = (gt sg i).nx d := by
   rw [oN hn]; split
   ·rename_i h; rw [← h]
   ·rfl
  rw [e, I.nx i d hd]
  by_cases h : i = now
  ·rw [if_pos h, if_pos h]
   by_cases h1 : d < c ∧ f0 d = 0
   ·rw [if_pos h1, if_pos ⟨by omega, h1.2⟩]
   ·rw [if_neg h1, if_neg (fun hh => h1 ⟨by
     by_cases hdc : d = c
     ·subst hdc; exact absurd hh.2 h0
     ·omega, hh.2⟩)]
  ·rw [if_neg h, if_neg h]
 ·by_cases hdc : d = c
  ·subst hdc; rw [oN hn, if_pos rfl]
  ·rw [oN hn, if_neg (hu d (by omega) hf).symm]
   exact I.fa1 d (by omega) hf
 ·rw [oN hn, if_neg (hi c (by omega) h0)]
  exact I.fa0 i fun d hd => hi d (by omega)
end
structure Lq (sg : List St) (ws : List Nm) (E : Nm → List Nat) (D : Nat → Prop) (Qs : List Nat) : Prop extends Lk sg ws E D Qs where
 up : ∀ i j w c, ws[i]? = some (w ++ [c]) → ws[j]? = some w → D i ∨ i ∈ Qs → D j
theorem yN {d : Nat} (hd : d < 256) : ∃ c : UInt8, c.toNat = d := ⟨UInt8.ofNat d, by rw [UInt8.toNat_ofNat']; omega⟩
section
variable {sg : List St} {ws : List Nm} {E : Nm → List Nat} {D : Nat → Prop} {now : Nat} {q : List Nat}
theorem Lk.lt {Qs : List Nat} (L : Lk sg ws E D Qs) {i : Nat} {w : Nm} (h : ws[i]? = some w) : i < sg.length := by
 rw [L.len]; exact (List.getElem?_eq_some_iff.1 h).1
theorem Lk.word {Qs : List Nat} (L : Lk sg ws E D Qs) {i : Nat} (h : i < sg.length) : ∃ w, ws[i]? = some w :=
 ⟨_, List.getElem?_eq_getElem (by rw [← L.len]; exact h)⟩
theorem Lq.pop {s0 : List St} (L : Lq s0 ws E D (now :: q)) {w : Nm} (hw : ws[now]? = some w) {o' : Nat} (ho : ws[o']? = some (tB ws E w)) (I : Inn s0 sg now (gt s0 now).nx (gt s0 (gt s0 now).fa).nx o' 256) :
  Lq sg ws E (fun i => D i ∨ i = now) (q ++ nV (gt s0 now).nx 256) := by
 have P := L.words
 have hap := L.apart now List.mem_cons_self
 have hnow := hap.2
 have hb := L.back hw hnow
 rw [gH hnow] at hb
 generalize hbe : (gt s0 now).fa = b at *
 have hbl := L.lt hb.1
 have hne : w ≠ [] := fun h => by
  subst h
  have := iV L.nd hw L.z
  subst this; exact hap.1 L.root
 generalize hf0 : (gt s0 now).nx = f0 at *
 have kyes : ∀ c : UInt8, f0 c.toNat ≠ 0 → ws[f0 c.toNat]? = some (w ++ [c]) := fun c hc => by
  have := L.yes now hnow w c hw hap.1 (by rw [gH hnow, hf0]; exact hc)
  rw [gH hnow, hf0] at this; exact this
 have kno : ∀ c : UInt8, f0 c.toNat = 0 → w ++ [c] ∉ ws := fun c hc => L.no now hnow w c hw hap.1 (by rw [gH hnow, hf0]; exact hc)
 have kid : ∀ i, i ∈ nV f0 256 → ∃ c : UInt8, f0 c.toNat = i ∧ ws[i]? = some (w ++ [c]) := fun i hi => by
  obtain ⟨d, h1, h2, h3⟩ := pK.1 hi
  obtain ⟨c, rfl⟩ := yN h1
  subst h3
  exact ⟨c, rfl, kyes c h2⟩
 have kapart : ∀ i, i ∈ nV f0 256 → ¬ D i ∧ i ∉ now :: q := fun i hi => by
  obtain ⟨c, _, h2⟩ := kid i hi
  exact ⟨fun h => hap.1 (L.up i now w c h2 hw (.inl h)), fun h => hap.1 (L.up i now w c h2 hw (.inr h))⟩
 have bk : ∀ c : UInt8, ws[(gt s0 b).nx c.toNat]? = some (ls ws (fl ws w ++ [c])) := fun c => by
  have := L.dn b hbl _ c hb.1 hb.2
  rw [gH hbl] at this; exact this
 have hqn := L.qnd
 rw [List.nodup_cons] at hqn
 have len := I.len
 have hshort : ∀ j v, ws[j]? = some v → v.length ≤ w.length → (D j ∨ j = now) ∨ j ∈ q := fun j v hj hv => by
  by_cases hlt : v.length < w.length
  ·rcases L.ord [] now q rfl w hw j v hj hlt with h | h
   ·exact .inl (.inl h)
   ·cases h
  ·rcases List.eq_nil_or_concat v with h | ⟨u, c, h⟩
   ·subst h; exact .inl (.inl (by rw [iV L.nd hj L.z]; exact L.root))
   ·rw [List.concat_eq_append] at h
    subst h
    rw [List.length_append, List.length_singleton] at hv
    obtain ⟨m, hm⟩ := List.getElem?_of_mem (L.pre u c (List.mem_of_getElem? hj))
    have hDm : D m := by
     rcases L.ord [] now q rfl w hw m u hm (by omega) with h | h
     ·exact h
     ·cases h
    rcases L.child j m u c hj hm hDm with h | h
    ·exact .inl (.inl h)
    ·rcases List.mem_cons.1 h with h | h
     ·exact .inl (.inr h)
     ·exact .inr h
 refine ⟨⟨by rw [len]; exact L.len, L.nd, L.z, L.pre, .inl L.root, ?_, ?_, ?_, ?_, ?_, ?_, ?_, ?_, ?_, ?_⟩, ?_⟩
 ·intro i hi v c hv hD hz
  rw [gH hi, I.nx i _ c.toNat_lt, if_neg (fun h => hD (.inr h)), ← gH (by omega)] at hz
  exact L.no i (by omega) v c hv (fun h => hD (.inl h)) hz
 ·intro i hi v c hv hD hz
  rw [gH hi, I.nx i _ c.toNat_lt, if_neg (fun h => hD (.inr h)), ← gH (by omega)] at hz ⊢
  exact L.yes i (by omega) v c hv (fun h => hD (.inl h)) hz
 ·intro i hi v c hv hD
  rw [gH hi, I.nx i _ c.toNat_lt]
  by_cases hin : i = now
  ·subst hin
   have hvw : v = w := Option.some.inj (hv.symm.trans hw)
   subst hvw
   rw [if_pos rfl]
   by_cases h0 : f0 c.toNat = 0
   ·rw [if_pos ⟨c.toNat_lt, h0⟩, bk c, ← Ie P v hne c (kno c h0)]
   ·rw [if_neg (fun hh => h0 hh.2), kyes c h0, D2 (List.mem_of_getElem? (kyes c h0))]
  ·rw [if_neg hin, ← gH (by omega)]
   exact L.dn i (by omega) v c hv (hD.resolve_right hin)
 ·intro i hi v hv hm
  rw [gH hi]
  by_cases hk : i ∈ nV f0 256
  ·obtain ⟨c, h1, h2⟩ := kid i hk
   have hvw : v = w ++ [c] := Option.some.inj (hv.symm.trans h2)
   subst hvw
   obtain ⟨d, hd1, hd2, hd3⟩ := pK.1 hk
   obtain ⟨c', rfl⟩ := yN hd1
   have h3 := kyes c' hd2
   rw [hd3, h2] at h3
   have hcc : c = c' := by
    have := (List.append_inj' (Option.some.inj h3) rfl).2
    exact (List.cons.inj this).1
   subst hcc
   have := I.fa1 c.toNat c.toNat_lt hd2
   rw [h1] at this
   rw [this, bk c, Ca P w hne c]
  ·rw [I.fa0 i fun d hd hf hh => hk (pK.2 ⟨d, hd, hf, hh⟩), ← gH (by omega)]
   refine L.fa i (by omega) v hv ?_
   rcases hm with (h | h) | h
   ·exact .inl h
   ·exact .inr (h ▸ List.mem_cons_self)
   ·rcases List.mem_append.1 h with h | h
    ·exact .inr (List.mem_cons_of_mem _ h)
    ·exact absurd h hk
 ·intro i hi v hv hD
  rw [gH hi, I.ou]
  by_cases hin : i = now
  ·subst hin
   have hvw : v = w := Option.some.inj (hv.symm.trans hw)
   rw [if_pos rfl, hvw]; exact ho
  ·rw [if_neg hin, ← gH (by omega)]
   exact L.ou i (by omega) v hv (hD.resolve_right hin)
 ·intro i hi v hv
  rw [gH hi, I.en, ← gH (by omega)]
  exact L.en i (by omega) v hv
 ·intro i hi
  rcases List.mem_append.1 hi with h | h
  ·have h1 := L.apart i (List.mem_cons_of_mem _ h)
   exact ⟨fun hh => hh.elim h1.1 fun e => hqn.1 (e ▸ h), by omega⟩
  ·obtain ⟨c, _, h2⟩ := kid i h
   have h3 := kapart i h
   exact ⟨fun hh => hh.elim h3.1 fun e => h3.2 (e ▸ List.mem_cons_self), by rw [len]; exact L.lt h2⟩
 ·refine List.nodup_append.2 ⟨hqn.2, ?_, fun a ha b hb hab => ?_⟩
  ·unfold nV
   refine List.pairwise_map.2 ?_
   have hp : (List.range 256).Pairwise fun a b => a < b := List.pairwise_lt_range
   rw [List.pairwise_filter]
   refine hp.imp_of_mem fun {a b} ha hb hab h1 h2 he => ?_
   obtain ⟨x, rfl⟩ := yN (List.mem_range.1 ha)
   obtain ⟨y, rfl⟩ := yN (List.mem_range.1 hb)
   have e1 := kyes x (of_decide_eq_true h1)
   have e2 := kyes y (of_decide_eq_true h2)
   rw [he, e2] at e1
   have := (List.append_inj' (Option.some.inj e1) rfl).2
   have := (List.cons.inj this).1
   subst this; omega
  ·subst hab; exact (kapart a hb).2 (List.mem_cons_of_mem _ ha)
 ·intro i j v c hi hj hD
  by_cases hjn : j = now
  ·subst hjn
   have hvw : v = w := Option.some.inj (hj.symm.trans hw)
   subst hvw
   by_cases h0 : f0 c.toNat = 0
   ·exact absurd (List.mem_of_getElem? hi) (kno c h0)
   ·have := iV L.nd (kyes c h0) hi
    exact .inr (List.mem_append_right _ (pK.2 ⟨c.toNat, c.toNat_lt, h0, this⟩))
  ·rcases L.child i j v c hi hj (hD.resolve_right hjn) with h | h
   ·exact .inl (.inl h)
   ·rcases List.mem_cons.1 h with h | h
    ·exact .inl (.inr h)
    ·exact .inr (List.mem_append_left _ h)
 ·intro p i q' he v hv j u hj hlt
  rcases List.append_eq_append_iff.1 he with ⟨a', h1, h2⟩ | ⟨c', h1, h2⟩
  ·
   have hik : i ∈ nV f0 256 := by rw [h2]; simp
   obtain ⟨c, _, h3⟩ := kid i hik
   have hvw : v = w ++ [c] := Option.some.inj (hv.symm.trans h3)
   subst hvw
   rw [List.length_append, List.length_singleton] at hlt
   rcases hshort j u hj (by omega) with h | h
   ·exact .inl h
   ·exact .inr (by rw [h1]; exact List.mem_append_left _ h)
  ·cases c' with
   | nil =>
    rw [List.nil_append] at h2
    have hik : i ∈ nV f0 256 := by rw [← h2]; simp
    obtain ⟨c, _, h3⟩ := kid i hik
    have hvw : v = w ++ [c] := Option.some.inj (hv.symm.trans h3)
    subst hvw
    rw [List.length_append, List.length_singleton] at hlt
    rcases hshort j u hj (by omega) with h | h
    ·exact .inl h
    ·rw [List.append_nil] at h1
     exact .inr (by rw [← h1]; exact h)
   | cons x c' =>
    rw [List.cons_append, List.cons.injEq] at h2
    obtain ⟨rfl, h2⟩ := h2
    rcases L.ord (now :: p) i c' (by rw [h1]; rfl) v hv j u hj hlt with h | h
    ·exact .inl (.inl h)
    ·rcases List.mem_cons.1 h with h | h
     ·exact .inl (.inr h)
     ·exact .inr h
 ·intro i j v c hi hj hD
  rcases hD with (h | h) | h
  ·exact .inl (L.up i j v c hi hj (.inl h))
  ·exact .inl (L.up i j v c hi hj (.inr (h ▸ List.mem_cons_self)))
  ·rcases List.mem_append.1 h with h | h
   ·exact .inl (L.up i j v c hi hj (.inr (List.mem_cons_of_mem _ h)))
   ·obtain ⟨d, _, h3⟩ := kid i h
    have := (List.append_inj' (Option.some.inj (hi.symm.trans h3)) rfl).1
    subst this
    exact .inr (iV L.nd hj hw)
theorem ri.start (T : ri sg ws E) : Lq sg ws E (fun i => i ∈ [0]) (nV (gt sg 0).nx 256) := by
 have P : Pre ws := ⟨List.mem_of_getElem? T.z, T.pre⟩
 have h0 := T.lt T.z
 generalize hf0 : (gt sg 0).nx = f0
 have kyes : ∀ c : UInt8, f0 c.toNat ≠ 0 → ws[f0 c.toNat]? = some [c] := fun c hc => by
  have := T.yes 0 h0 [] c T.z (by rw [gH h0, hf0]; exact hc)
  rw [gH h0, hf0] at this; exact this
 have kno : ∀ c : UInt8, f0 c.toNat = 0 → [c] ∉ ws := fun c hc => T.no 0 h0 [] c T.z (by rw [gH h0, hf0]; exact hc)
 have kid : ∀ i, i ∈ nV f0 256 → ∃ c : UInt8, f0 c.toNat = i ∧ ws[i]? = some [c] := fun i hi => by
  obtain ⟨d, h1, h2, h3⟩ := pK.1 hi
  obtain ⟨c, rfl⟩ := yN h1
  subst h3
  exact ⟨c, rfl, kyes c h2⟩
 have z : ∀ {i : Nat}, i ∈ [0] → i = 0 := fun h => List.mem_singleton.1 h
 have nz : ∀ {i : Nat} {c : UInt8}, ws[i]? = some [c] → i ≠ 0 := fun h e => by subst e; have := Option.some.inj (h.symm.trans T.z); cases this
 have lsn : ls ws [] = [] := rfl
 refine ⟨⟨T.len, T.nd, T.z, T.pre, List.mem_singleton.2 rfl, fun i hi v c hv _ => T.no i hi v c hv, fun i hi v c hv _ => T.yes i hi v c hv, ?_, ?_, ?_, T.en, ?_, ?_, ?_, ?_⟩, ?_⟩
 ·intro i hi v c hv hD
  have := z hD
  subst this
  have hvn : v = [] := Option.some.inj (hv.symm.trans T.z)
  subst hvn
  rw [gH hi, hf0]
  by_cases hc : f0 c.toNat = 0
  ·rw [hc, T.z]
   congr 1
   show [] = ls ws [c]
   unfold ls; rw [if_neg (kno c hc)]; rfl
  ·rw [kyes c hc]
   congr 1
   exact (D2 (List.mem_of_getElem? (kyes c hc))).symm
 ·intro i hi v hv hm
  rw [(T.fo i hi).1, T.z]
  congr 1
  rcases hm with h | h
  ·have := z h
   subst this
   have hvn : v = [] := Option.some.inj (hv.symm.trans T.z)
   subst hvn; rfl
  ·obtain ⟨c, _, h2⟩ := kid i h
   have hvn : v = [c] := Option.some.inj (hv.symm.trans h2)
   subst hvn; rfl
 ·intro i hi v hv hD
  have := z hD
  subst this
  have hvn : v = [] := Option.some.inj (hv.symm.trans T.z)
  subst hvn
  rw [(T.fo 0 hi).2, T.z, rv]
 ·intro i hi
  obtain ⟨c, _, h2⟩ := kid i hi
  exact ⟨fun h => nz h2 (z h), T.lt h2⟩
 ·unfold nV
  refine List.pairwise_map.2 ?_
  have hp : (List.range 256).Pairwise fun a b => a < b := List.pairwise_lt_range
  rw [List.pairwise_filter]
  refine hp.imp_of_mem fun {a b} ha hb hab h1 h2 he => ?_
  obtain ⟨x, rfl⟩ := yN (List.mem_range.1 ha)
  obtain ⟨y, rfl⟩ := yN (List.mem_range.1 hb)
  have e1 := kyes x (of_decide_eq_true h1)
  have e2 := kyes y (of_decide_eq_true h2)
  rw [he, e2] at e1
  have := (List.cons.inj (Option.some.inj e1)).1
  subst this; omega
 ·intro i j v c hi hj hD
  have := z hD
  subst this
  have hvn : v = [] := Option.some.inj (hj.symm.trans T.z)
  subst hvn
  by_cases hc : f0 c.toNat = 0
  ·exact absurd (List.mem_of_getElem? hi) (kno c hc)
  ·exact .inr (pK.2 ⟨c.toNat, c.toNat_lt, hc, iV T.nd (kyes c hc) hi⟩)
 ·intro p i q' he v hv j u hj hlt
  obtain ⟨c, _, h2⟩ := kid i (by rw [he]; simp)
  have hvn : v = [c] := Option.some.inj (hv.symm.trans h2)
  subst hvn
  have : u = [] := List.length_eq_zero_iff.1 (by simpa using hlt)
  subst this
  exact .inl (List.mem_singleton.2 (iV T.nd hj T.z))
 ·intro i j v c hi hj hD
  rcases hD with h | h
  ·have := z h
   subst this
   have := Option.some.inj (hi.symm.trans T.z)
   simp at this
  ·obtain ⟨d, _, h2⟩ := kid i h
   have := (List.append_inj' (s₁ := v) (s₂ := []) (Option.some.inj (hi.symm.trans h2)) rfl).1
   subst this
   exact List.mem_singleton.2 (iV T.nd hj T.z)
structure x7 (sg : List St) (ws : List Nm) (E : Nm → List Nat) : Prop where
 len : sg.length = ws.length
 nd : ws.Nodup
 z : ws[0]? = some []
 pre : ∀ w c, w ++ [c] ∈ ws → w ∈ ws
 nx : ∀ i (hi : i < sg.length) w (c : UInt8), ws[i]? = some w → ws[sg[i].nx c.toNat]? = some (ls ws (w ++ [c]))
 ou : ∀ i (hi : i < sg.length) w, ws[i]? = some w → ws[sg[i].ou]? = some (tB ws E w)
 en : ∀ i (hi : i < sg.length) w, ws[i]? = some w → sg[i].en = E w
theorem Lk.done (L : Lk sg ws E D []) : x7 sg ws E :=
 ⟨L.len, L.nd, L.z, L.pre, fun i hi w c hw => L.dn i hi w c hw (L.all _ w (Nat.le_refl _) i hw), fun i hi w hw => L.ou i hi w hw (L.all _ w (Nat.le_refl _) i hw), L.en⟩
end
end Go.Proofs.YtjmfpeiidlpngaaGreatDoor.Au
namespace Go.Proofs.YtjmfpeiidlpngaaGreatDoor
set_option linter.unusedSimpArgs false
set_option linter.unusedVariables false
set_option maxRecDepth 20000
open Go
def Cp (h : aA) (a : Option Addr) (cap sz : Nat) (cs : List Value) : Prop :=
 match a with
 | none => cs = [] ∧ cap = 0
 | some ad => ad.spot = none ∧ ∃ ds t fr, Ii ds.size fr ∧ h[ad.block]? = some (.cells ds t fr) ∧ ad.off + cap * sz ≤ ds.size ∧ ad.off + cs.length ≤ ds.size ∧ ∀ i (hi : i < cs.length), ds[ad.off + i]? = some cs[i]
theorem Cp.fr {S : Nat → Prop} {h h' : aA} {a : Option Addr} {cap sz : Nat} {cs : List Value} (ho : Cp h a cap sz cs) (hf : Fr S h h') (hs : ∀ b, InA a b → ¬ S b) : Cp h' a cap sz cs := by
 cases a with
 | none => exact ho
 | some ad =>
  obtain ⟨h2, ds, t, fr, hfr, hg, hr⟩ := ho
  exact ⟨h2, ds, t, fr, hfr, hf.get hg (hs _ ⟨ad, rfl, rfl⟩), hr⟩
theorem Cp.cells {h : aA} {ad : Addr} {cap sz : Nat} {cs : List Value} (ho : Cp h (some ad) cap sz cs) : aW h ad cs := by
 obtain ⟨h2, ds, t, fr, hfr, hg, _, _, hc⟩ := ho
 intro j hj
 obtain ⟨b, o, s⟩ := ad
 simp only at h2 hg hc
 subst h2
 rw [gG, ka hg]; exact hc j hj
section
variable {P : Program} {h : aA}
theorem Cs {sT xT ty el : TypeId} {consts : Array Bool} {i : TypeInfo} {z : Value} {d : TypeDesc} (t : gM P sT el i z) (hX : P.underlying xT = some d) (hd : ∀ k, d ≠ .int k)
  {a : Option Addr} {n cap m : Nat} {cs xs : List Value} {x : Value} (ho : Cp h a cap i.size cs) (hn : cs.length = n * i.size) (hnc : n ≤ cap) (s : Src h i.size x m xs) (hv : ∀ v ∈ xs, ee v = true)
  (hlim : (8 * (n + m) + 4000) * i.bytes ≤ 2 ^ 48) {K : Value → aA → Prop}
  (hk : ∀ (a' : Option Addr) (cap' : Nat) (h' : aA), Cp h' a' cap' i.size (cs ++ xs) → n + m ≤ cap' → Fr (InA a) h h' → (∀ b, InA a' b → InA a b ∨ h.size ≤ b) → K (.slice a' (n + m) cap') h') :
  dN P .append #[sT, xT] ty consts #[.slice a n cap, x] h K := by
 have hxl := s.len
 unfold dN builtin
 simp only [bind]
 rw [aO]
 unfold Builtin.append_
 simp only [List.getElem?_toArray, List.getElem?_cons_zero, List.getElem?_cons_succ, bind]
 rw [aO]
 refine bP t.und ?_
 simp only
 rw [aO]
 refine rQ (by rw [t.info]; rfl) ?_
 have hsz : gK P el = i.size := by simp [gK, t.info]
 rw [hsz, aO]
 refine bP hX ?_
 have hfalse : (match d with | .int _ => true | _ => false) = false := by
  cases d <;> first | rfl | exact absurd rfl (hd _)
 simp only [pure, Sem.bind, hfalse]
 simp only [Bool.false_eq_true, if_false]
 rw [aO]
 refine Ek s ?_
 split
 case isTrue hle =>
  rw [aO]
  refine pC s ?_
  cases a with
  | none =>
   obtain ⟨rfl, rfl⟩ := ho
   have hm : m = 0 := by omega
   have hn0 : n = 0 := by omega
   subst hm hn0
   have : xs = [] := by rw [← List.length_eq_zero_iff, hxl]; simp
   subst this
   exact hk none 0 h ⟨rfl, rfl⟩ (by omega) (Fr.refl _ _) (fun b hb => .inl hb)
  | some ad =>
   obtain ⟨h2, ds, ty', fr, hfr, hg, hcap, hlen, hc⟩ := ho
   obtain ⟨b, o, sp⟩ := ad
   simp only at h2 hg hcap hlen hc
   subst h2
   simp only
   rw [aO]
   have hadd : ∀ j, (Addr.add (Addr.add ⟨b, o, none⟩ (n * i.size)) j) = ⟨b, (o + n * i.size) + j, none⟩ := fun j => by rw [gG, gG]
   have hfit : (o + n * i.size) + xs.length ≤ ds.size := by
    have : (n + m) * i.size ≤ cap * i.size := Nat.mul_le_mul_right _ hle
    rw [Nat.add_mul] at this
    omega
   refine rh hadd xs 0 ds h hg hfr hv (by omega) ?_
   simp only [Nat.add_zero, pure, wpH, nxK]
   refine hk _ _ _ ⟨rfl, _, ty', fr, by rw [io]; exact hfr, lk hg, ?_, ?_, ?_⟩ hle (Fr.set _ _ ⟨_, rfl, rfl⟩) (fun b hb => .inl hb)
   ·rw [io]; exact hcap
   ·rw [io, List.length_append]; show o + _ ≤ _; omega
   ·intro j hj
    rw [pT _ _ _ hfit]
    rw [List.length_append] at hj
    show (if _ then _ else ds[o + j]?) = _
    by_cases hjn : j < cs.length
    ·rw [if_neg (by show ¬ (_ ≤ o + j ∧ _); omega), hc j hjn, List.getElem_append_left hjn]
    ·rw [if_pos (by show _ ≤ o + j ∧ o + j < _; omega), List.getElem_append_right (by omega), List.getElem?_eq_getElem (by show o + j - _ < _; omega)]
     congr 2; show o + j - _ = _; omega
 case isFalse hgt =>
  have hgt' : cap < n + m := by omega
  rw [aO]
  have hp : (2 : Nat) ^ 48 = 281474976710656 := by decide
  have hb1 : 1 ≤ i.bytes := t.bytes
  have hneed : 8 * (n + m) + 4000 ≤ 2 ^ 48 := Nat.le_trans (Nat.le_mul_of_pos_right _ t.bytes) hlim
  refine j8 t.info ?_
  have c1 : ¬ (((n + m : Nat) : Int) > IntKind.i64.max ∧ (False ∨ i.bytes = 0)) := by
   rintro ⟨_, h | h⟩
   ·exact h
   ·omega
  rw [if_neg c1]
  rw [aO]
  refine j8 t.info ?_
  have c2 : ¬ (Builtin.nextslicecap (n + m) cap * i.bytes > 2 ^ 48) := by
   have := Nat.mul_le_mul_right i.bytes (yU hgt')
   omega
  rw [if_neg c2]
  rw [aO]
  unfold choose
  refine ⟨fun q => ?_, fun hq => by simp [Question.forced] at hq⟩
  simp only [wpH, Question.cut]
  rw [aO]
  refine j8 t.info ?_
  have room : ∀ {K : Unit → aA → Prop} {b : Nat} {h : aA}, K () h → wpH P (askRoom b) K h := fun hk => by
   unfold askRoom; split <;> exact hk
  rw [aO]
  refine room ?_
  rw [aO]
  have sold : Src h i.size (.slice a n cap) n cs := by
   cases a with
   | none =>
    obtain ⟨rfl, rfl⟩ := ho
    have : n = 0 := by omega
    subst this; exact .nil _
   | some ad => exact .sl ad n cap cs hn ho.cells
  refine pC sold ?_
  rw [aO]
  refine pC s ?_
  rw [aO]
  have zr : ∀ {K : Value → aA → Prop} {h : aA}, K z h → wpH P (zeroValue el) K h := fun hk => by
   unfold zeroValue; simp only [bind]; rw [aO]; refine j8 t.info ?_; rw [t.zero]; exact hk
  refine zr ?_
  rw [aO]
  unfold newRow newObj
  simp only [bind, Sem.bind, wpH, pure, nxK]
  refine hk _ _ _ ⟨rfl, _, _, (0, 0), .inl rfl, cW, ?_, ?_, ?_⟩ (by omega) (Fr.push _ _ _) (fun b hb => ?_)
  ·simp only [Array.size_append, pY, t.size]
   simp only [List.size_toArray, hn, hxl, Nat.zero_add]
   rw [← Nat.add_mul, ← Nat.add_mul]
   exact Nat.mul_le_mul_right _ (by omega)
  ·simp only [Array.size_append, List.size_toArray, List.length_append]; omega
  ·intro j hj
   have hja : j < (cs.toArray ++ xs.toArray).size := by simpa using hj
   rw [Nat.zero_add, Array.getElem?_append_left hja]
   simp only [List.append_toArray, List.getElem?_toArray]
   exact List.getElem?_eq_getElem hj
  ·obtain ⟨ad, he, rfl⟩ := hb
   cases he
   exact .inr (Nat.le_refl _)
end
structure Que {α : Type} (sz : Nat) (vals : α → List Value) (h : aA) (p : Option Addr) (cap : Nat) (L : List α) : Prop where
 own : Cp h p cap sz (L.flatMap vals)
 le : L.length ≤ cap
section
variable {α : Type} {sz : Nat} {vals : α → List Value} {h : aA} {p : Option Addr} {cap : Nat} {L : List α}
theorem Que.nil : Que sz vals h none 0 ([] : List α) := ⟨⟨rfl, rfl⟩, Nat.le_refl _⟩
theorem Que.fr {S : Nat → Prop} {h' : aA} (R : Que sz vals h p cap L) (f : Fr S h h') (hs : ∀ b, InA p b → ¬ S b) : Que sz vals h' p cap L := ⟨R.own.fr f hs, R.le⟩
theorem Que.fr0 {h' : aA} (f : Fr (fun _ => False) h h') (R : Que sz vals h p cap L) : Que sz vals h' p cap L := R.fr f fun _ _ => id
theorem Que.cellsAt (R : Que sz vals h p cap L) (hv : ∀ x, (vals x).length = sz) (h0 : 0 < sz) (i : Nat) (hi : i < L.length) : ∃ ad, p = some ad ∧ aW h (ad.add (i * sz)) (vals L[i]) := by
 cases p with
 | none =>
  have := R.own.1
  rw [List.flatMap_eq_nil_iff] at this
  have h1 := hv L[i]
  rw [this _ (List.getElem_mem hi)] at h1
  simp at h1; omega
 | some ad =>
  refine ⟨ad, rfl, fun j hj => ?_⟩
  rw [lg]
  refine R.own.cells.at ?_
  rw [tH hv L i j hi (by rw [hv] at hj; exact hj), List.getElem?_eq_getElem hj]
theorem Que.idx (R : Que sz vals h p cap L) (hv : ∀ x, (vals x).length = sz) (h0 : 0 < sz) {n : Int} (i : Nat) (hn : n = i) (hi : i < L.length) {K : Addr → Prop} (hk : ∀ ad, aW h (ad.add (i * sz)) (vals L[i]) → K ad) : bQ n L.length (nn p fun a => K a) := by
 refine bO i hn hi ?_
 obtain ⟨ad, rfl, c⟩ := R.cellsAt hv h0 i hi
 exact aS (hk ad c)
theorem Que.pop {x : α} {L : List α} (R : Que sz vals h p cap (x :: L)) (hv : ∀ x, (vals x).length = sz) (h0 : 0 < sz) {K : Option Addr → Nat → Nat → Prop} (hk : ∀ p' cap', (∀ b, InA p' b → InA p b) → Que sz vals h p' cap' L → K p' L.length cap') :
  fX sz p (x :: L).length cap (some 1) none none K := by
 have hle := R.le
 rw [List.length_cons] at hle
 have hx := hv x
 unfold fX
 refine ⟨by omega, by rw [List.length_cons]; omega, ?_⟩
 have e1 : (1 : Int).toNat = 1 := rfl
 rw [e1, List.length_cons, Nat.add_sub_cancel]
 cases p with
 | none => exact absurd R.own.2 (by omega)
 | some ad =>
  obtain ⟨h2, ds, t, fr, hfr, hg, hcap, hlen, hc⟩ := R.own
  rw [List.flatMap_cons, List.length_append, hx] at hlen
  by_cases hc1 : cap = 1
  ·rw [if_pos hc1]
   have hL : L = [] := List.length_eq_zero_iff.1 (by omega)
   subst hL
   exact hk _ _ (fun b hb => hb) ⟨⟨h2, ds, t, fr, hfr, hg, by subst hc1; omega, by simp at hlen ⊢; omega, fun i hi => absurd hi (Nat.not_lt_zero _)⟩, Nat.zero_le _⟩
  ·rw [if_neg hc1]
   obtain ⟨b, o, sp⟩ := ad
   simp only at h2 hg hcap hlen hc
   subst h2
   have ea : (Option.map (fun x => Addr.add x (1 * sz)) (some (⟨b, o, none⟩ : Addr))) = some ⟨b, o + sz, none⟩ := by
    show some (Addr.add _ _) = _
    rw [gG, Nat.one_mul]
   rw [ea]
   refine hk _ _ (fun x hx => by obtain ⟨ad, he, hb⟩ := hx; cases he; exact ⟨_, rfl, hb⟩) ⟨⟨rfl, ds, t, fr, hfr, hg, ?_, ?_, fun i hi => ?_⟩, by omega⟩
   ·have : cap * sz = sz + (cap - 1) * sz := by
     obtain ⟨c, rfl⟩ : ∃ c, cap = c + 1 := ⟨cap - 1, by omega⟩
     rw [Nat.succ_mul, Nat.add_sub_cancel]; omega
    show o + sz + _ ≤ _
    omega
   ·show o + sz + _ ≤ _; omega
   ·have := hc (sz + i) (by rw [List.flatMap_cons, List.length_append, hx]; omega)
    show ds[o + sz + i]? = _
    rw [Nat.add_assoc, this]
    congr 1
    rw [List.getElem_append_right' (vals x) hi]
    simp only [hx, List.flatMap_cons]
    congr 1
    omega
theorem Que.appL {P : Program} {sT xT ty el : TypeId} {consts : Array Bool} {i : TypeInfo} {z : Value} {d : TypeDesc} (t : gM P sT el i z) (hX : P.underlying xT = some d) (hd : ∀ k, d ≠ .int k) (hz : i.size = sz) (hb : i.bytes ≤ 2000) (hv : ∀ x, (vals x).length = sz) (hc : ∀ x, (vals x).all ee = true)
  (R : Que sz vals h p cap L) {M : List α} {x : Value} (s : Src h sz x M.length (M.flatMap vals)) (hl : L.length + M.length ≤ 2 ^ 30) {K : Value → aA → Prop}
  (hk : ∀ p' cap' h', Que sz vals h' p' cap' (L ++ M) → Fr (InA p) h h' → (∀ b, InA p' b → InA p b ∨ h.size ≤ b) → K (.slice p' (L ++ M).length cap') h') :
  dN P .append #[sT, xT] ty consts #[.slice p L.length cap, x] h K := by
 subst hz
 refine Cs t hX hd (m := M.length) (xs := M.flatMap vals) R.own (lN hv L) R.le s (zK hc M) (lim hb hl) fun p' c' h' o' hc' f hn => ?_
 have el : L.length + M.length = (L ++ M).length := by simp
 rw [el] at hc' ⊢
 refine hk p' c' h' ⟨?_, hc'⟩ f hn
 rw [List.flatMap_append]; exact o'
theorem Que.app {P : Program} {sT xT ty el T : TypeId} {consts : Array Bool} {i : TypeInfo} {z : Value} {d : TypeDesc} (t : gM P sT el i z) (hX : P.underlying xT = some d) (hd : ∀ k, d ≠ .int k) (hz : i.size = sz) (hb : i.bytes ≤ 2000) (hv : ∀ x, (vals x).length = sz) (hc : ∀ x, (vals x).all ee = true)
  (R : Que sz vals h p cap L) {e : α} {b : Addr} (ob : Own h b (vals e) T) (c : Nat) (hl : L.length ≤ 2 ^ 29) {K : Value → aA → Prop}
  (hk : ∀ p' cap' h', Que sz vals h' p' cap' (L ++ [e]) → Fr (InA p) h h' → (∀ b, InA p' b → InA p b ∨ h.size ≤ b) → K (.slice p' (L ++ [e]).length cap') h') :
  dN P .append #[sT, xT] ty consts #[.slice p L.length cap, .slice (some b) 1 c] h K := by
 have s : Src h sz (.slice (some b) 1 c) [e].length ([e].flatMap vals) := by
  have : [e].flatMap vals = vals e := by simp
  rw [this]; exact Src.sl b 1 c (vals e) (by rw [hv]; simp) ob.cells
 exact R.appL t hX hd hz hb hv hc s (by simp only [List.length_singleton]; omega) hk
end
end Go.Proofs.YtjmfpeiidlpngaaGreatDoor
namespace Go.Proofs.YtjmfpeiidlpngaaGreatDoor.Au
set_option linter.unusedSimpArgs false
set_option linter.unusedVariables false
set_option maxRecDepth 20000
open Go
open Go.IntKind (wrap)
def B2 (n : Nat) : List Value := [.int .u16 n]
theorem vU (n : Nat) : (B2 n).length = 1 := rfl
theorem Hp : gM Tryz.prog kJ yg Tryz.t170 (.int .u16 0) := ⟨Tryz.underlying205, by kernel_rfl, by kernel_rfl, by kernel_rfl, by decide⟩
theorem za (f : Nat → Nat) (n : Nat) : (nV f n).length ≤ n := by
 unfold nV
 rw [List.length_map]
 exact Nat.le_trans (List.length_filter_le ..) (by rw [List.length_range]; exact Nat.le_refl _)
theorem yK {l : List Nat} {n : Nat} (h : l.Nodup) (hl : ∀ x ∈ l, x < n) : l.length ≤ n := by
 induction n generalizing l with
 | zero =>
  cases l with
  | nil => exact Nat.le_refl _
  | cons a l => exact absurd (hl a List.mem_cons_self) (Nat.not_lt_zero _)
 | succ n ih =>
  have h1 := ih (h.erase n) fun x hx => by
   have h2 := (List.Nodup.mem_erase_iff h).1 hx
   have := hl x h2.2
   have := h2.1
   omega
  rw [List.length_erase] at h1
  split at h1 <;> omega
section
variable {o : Tag} {k : Nat} {h : aA} {a : Addr} {sg : List St} {pq : Option Addr} {pn pc : Nat} {ws : List Nm} {E : Nm → List Nat}
theorem IF [Gh] {h0 : aA} {o : Tag} {s0 : List St} {now b : Nat} {q : List Nat} {p : Option Addr} {cap : Nat} {ad : Addr} {ca : Nat}
  (hlen : s0.length ≤ 40000) (hq : q.length ≤ 40000) (A : jF o k h a s0 pq pn pc) (hc : hcell h a = some (.slice (some ad) s0.length ca)) (hn : now < s0.length) (hb : b < s0.length) (hnb : now ≠ b)
  (hk0 : ∀ d, d < 256 → (gt s0 now).nx d < s0.length) (hkb : ∀ d, d < 256 → (gt s0 b).nx d < s0.length) (hu : ∀ c d, c < 256 → d < 256 → (gt s0 now).nx c ≠ 0 → (gt s0 now).nx c = (gt s0 now).nx d → c = d)
  (Qu : Que 1 B2 h p cap q) (hz : h0.size ≤ h.size) (hnew : ∀ x, InA p x → h0.size ≤ x) (ho : ∀ x, h0.size ≤ x → o x = k)
  {Q : Value → aA → Prop} {Kn : (Option Addr) × Nat × Nat → aA → Prop}
  (hk : ∀ h' sg p' cap', Fr (fun x => o x = k + 2 ∨ h0.size ≤ x) h h' → jF o k h' a sg pq pn pc → Inn s0 sg now (gt s0 now).nx (gt s0 b).nx (gt s0 now).ou 256 → Que 1 B2 h' p' cap' (q ++ nV (gt s0 now).nx 256) → (∀ x, InA p' x → h0.size ≤ x) → Kn (p', (q ++ nV (gt s0 now).nx 256).length, cap') h') :
  cD (some a) p q.length cap (ad.add (now * 259)) (ad.add (b * 259)) Q Kn h := by
 unfold cD
 obtain ⟨q', c', hc2, hcs⟩ := A.cell
 have e := hc.symm.trans hc2
 simp only [Option.some.injEq, Value.slice.injEq] at e
 obtain ⟨rfl, _, rfl⟩ := e
 obtain ⟨ad', hq', ci⟩ := hcs now hn
 cases hq'
 refine FW ci ?_
 rw [gH hn]
 generalize hf0 : (gt s0 now).nx = f0 at *
 refine aJ.go (fun n st h' => ∃ (c : Nat) (sg : List St) (p' : Option Addr) (cap' : Nat), st.1 = p' ∧ st.2.1 = (q ++ nV f0 c).length ∧ st.2.2.1 = cap' ∧ st.2.2.2 = (c : Int) ∧ c ≤ 256 ∧ n = 256 - c ∧ Fr (fun x => o x = k + 2 ∨ h0.size ≤ x) h h' ∧ jF o k h' a sg pq pn pc ∧ hcell h' a = some (.slice (some ad) s0.length ca) ∧ Inn s0 sg now f0 (gt s0 b).nx (gt s0 now).ou c ∧ Que 1 B2 h' p' cap' (q ++ nV f0 c) ∧ (∀ x, InA p' x → h0.size ≤ x)) 256
  ⟨0, s0, p, cap, rfl, by simp [nV], rfl, rfl, by omega, rfl, Fr.refl _ _, A, hc, ⟨rfl, fun _ => rfl, fun i => ?_, fun i d hd => ?_, fun d hd => absurd hd (Nat.not_lt_zero _), fun i hi => rfl⟩, by simpa [nV] using Qu, hnew⟩ ?_
 ·by_cases h : i = now
  ·rw [if_pos h, h]
  ·rw [if_neg h]
 ·rw [if_neg (fun hh : d < 0 ∧ f0 d = 0 => Nat.not_lt_zero _ hh.1)]
  by_cases h : i = now
  ·rw [if_pos h, h, hf0]
  ·rw [if_neg h]
 rintro n ⟨qa, qn, qc, t74⟩ h1 ⟨c, sg, p1, cap1, e1, e2, e3, e4, hc256, rfl, f1, A1, hc1, I1, Q1, hn1⟩ Kn5 hK
 dsimp only at e1 e2 e3 e4
 subst e1 e2 e3 e4
 dsimp only
 unfold hY
 have z1 := f1.size
 have hl1 := I1.len
 refine ifD (fun e => ?_) fun e => ?_
 ·have hc' : c < 256 := by omega
  refine bO c rfl hc' ⟨_, FK f0 hc', _, rfl, ?_⟩
  obtain ⟨q2, c2, hc3, hcs1⟩ := A1.cell
  have e := hc1.symm.trans hc3
  simp only [Option.some.injEq, Value.slice.injEq] at e
  obtain ⟨rfl, _, rfl⟩ := e
  obtain ⟨adb, hab, cb⟩ := hcs1 b (by omega)
  cases hab
  have hbv : sg[b].nx c = (gt s0 b).nx c := by
   rw [gH (by omega), I1.nx b c hc', if_neg hnb.symm]
  rw [Int.toNat_natCast]
  have hkb' := hkb c hc'
  have hk0' := hk0 c hc'
  have rd : hcell h1 ((ad.add (b * 259)).add (c * 1)) = some (.int .u16 ((gt s0 b).nx c : Nat)) := by
   rw [Nat.mul_one, ← hbv]
   exact cb.at (AQ _ hc')
  refine ifE (fun h0' => ?_) fun h0' => ?_
  ·have h0' : f0 c = 0 := by omega
   refine bO c rfl hc' (aB rd (bO c rfl hc' ?_))
   rw [Nat.mul_one]
   refine A1.put hc3 rfl now (by omega) (j := c) (by omega) (v := .int .u16 ((gt s0 b).nx c : Nat)) rfl { gt sg now with nx := uM (gt sg now).nx c ((gt s0 b).nx c) } (by rw [gH]; exact Hd _ hc' _) (by rw [gH]) (by rw [gH]) (by rw [gH]) fun h2 f2 A2 => ?_
   rw [wr (by omega) (by omega)]
   refine hK (256 - (c + 1)) _ _ (by omega) ⟨c + 1, _, qa, qc, rfl, ?_, rfl, rfl, by omega, rfl, f1.tr f2 fun x hx hh => .inl hh, A2, ?_, I1.no hc' (by omega) h0', ?_, hn1⟩
   ·rw [mu, if_pos h0']
   ·exact f2.hcell hc1 fun hh => by have := A1.tag; omega
   ·rw [mu, if_pos h0']
    exact Q1.fr f2 fun x hx hh => by have := ho x (hn1 x hx); omega
  ·have h0' : f0 c ≠ 0 := fun h => h0' (by omega)
   refine aS (aC hc1 (bO c rfl hc' (aB rd (bO (f0 c) rfl (by omega) (aS ?_)))))
   rw [Int.toNat_natCast]
   refine A1.put hc3 rfl (f0 c) (by omega) (j := 256) (by omega) (v := .int .u16 ((gt s0 b).nx c : Nat)) rfl { gt sg (f0 c) with fa := (gt s0 b).nx c } (by rw [gH]; exact Jh _ _) (by rw [gH]) (by rw [gH]) (by rw [gH]) fun h2 f2 A2 => ?_
   have z2 := f2.size
   refine aZ (vs := B2 (f0 c)) fun t106 h3 f3 e3 o3 => ?_
   have z3 := f3.size
   have Q3 := (Q1.fr f2 fun x hx hh => by have := ho x (hn1 x hx); omega).fr0 f3
   have hkl := za f0 c
   refine Q3.app Hp Tryz.underlying205 (by intro k e; cases e) (by kernel_rfl) (by decide +kernel) vU (fun _ => rfl) o3 1 (by rw [List.length_append]; omega) fun p4 cap4 h4 Q4 f4 hn4 => ⟨_, _, _, rfl, ?_⟩
   have A4 : jF o k h4 a (sg.set (f0 c) { gt sg (f0 c) with fa := (gt s0 b).nx c }) pq pn pc := (A2.fr0 f3).fr f4 (fun x hx hh => by have := ho x (hn1 x hh); omega) (Old.refl _ _)
   rw [wr (by omega) (by omega)]
   refine hK (256 - (c + 1)) _ _ (by omega) ⟨c + 1, _, p4, cap4, rfl, ?_, rfl, rfl, by omega, rfl, ((f1.tr f2 fun x hx hh => .inl hh).tr f3 fun _ _ h => h.elim).tr f4 fun x hx hh => .inr (hn1 x hh), A4, ?_, I1.yes hc' (by omega) h0' fun d hd hf hh => ?_, ?_, fun x hx => ?_⟩
   ·rw [mu, if_neg h0', ← List.append_assoc]
   ·have := A1.tag
    exact f4.hcell (f3.hcell (f2.hcell hc1 fun hh => by omega) id) fun hh => by have := ho _ (hn1 _ hh); omega
   ·have := hu d c (by omega) hc' hf hh; omega
   ·rw [mu, if_neg h0', ← List.append_assoc]; exact Q4
   ·rcases hn4 x hx with h | h
    ·exact hn1 x h
    ·omega
 ·have : c = 256 := by omega
  subst this
  exact hk h1 sg qa qc f1 A1 I1 Q1 hn1
theorem IR [Gh] (A : jF o k h a sg pq pn pc) (T : ri sg ws E) (hN : ws.length ≤ 40000) {Q : Value → aA → Prop}
  (hk : ∀ o' h' sg', Old h o o' → (∀ x, h.size ≤ x → o' x = k) → Fr (fun x => o x = k + 2) h h' → jF o' k h' a sg' pq pn pc → x7 sg' ws E → Q (.tuple #[]) h') :
  aD Tryz.prog hU #[.pointer (some a)] h Q := by
 apply qk
 unfold kO
 have hlen := T.len
 have h0 := T.lt T.z
 have hza := A.lt
 have tg := A.tag
 have hO : Old h o (upT o h.size k) := Old.up (Nat.le_refl _)
 have hup : ∀ x, h.size ≤ x → upT o h.size k x = k := fun x hx => jR hx
 have A' : jF (upT o h.size k) k h a sg pq pn pc := A.fr (Fr.refl _ _) (fun _ _ h => False.elim h) hO
 have hlo : ∀ x, x < h.size → upT o h.size k x = o x := fun x hx => dU hx
 clear A
 generalize upT o h.size k = o1 at *
 obtain ⟨q, ca, hc, hcs⟩ := A'.cell
 obtain ⟨ad, had, ci⟩ := hcs 0 h0
 subst had
 refine aS (aC hc (bO 0 rfl h0 (aS (FW ci ?_))))
 rw [gH h0]
 have St0 := T.start
 have hk0 : ∀ d, d < 256 → (gt sg 0).nx d < sg.length := fun d hd => by
  by_cases hz : (gt sg 0).nx d = 0
  ·rw [hz]; exact h0
  ·exact (St0.apart _ (pK.2 ⟨d, hd, hz, rfl⟩)).2
 generalize hf0 : (gt sg 0).nx = f0 at *
 refine aJ.go (fun n st h' => ∃ (c : Nat) (p' : Option Addr) (cap' : Nat), st.1 = p' ∧ st.2.1 = (nV f0 c).length ∧ st.2.2.1 = cap' ∧ st.2.2.2 = (c : Int) ∧ c ≤ 256 ∧ n = 256 - c ∧ Fr (fun _ => False) h h' ∧ Que 1 B2 h' p' cap' (nV f0 c) ∧ (∀ x, InA p' x → h.size ≤ x)) 256
  ⟨0, none, 0, rfl, rfl, rfl, rfl, by omega, rfl, Fr.refl _ _, Que.nil, fun x hx => (dR hx).elim⟩ ?_
 rintro n ⟨qa, qn, qc, t17⟩ h1 ⟨c, p1, cap1, e1, e2, e3, e4, hc256, rfl, f1, Q1, hn1⟩ Kn1 hK
 dsimp only at e1 e2 e3 e4
 subst e1 e2 e3 e4
 dsimp only
 unfold gW
 have z1 := f1.size
 refine ifD (fun e => ?_) fun e => ?_
 ·have hc' : c < 256 := by omega
  refine bO c rfl hc' ⟨_, FK f0 hc', _, rfl, ?_⟩
  have hk0' := hk0 c hc'
  rw [Int.toNat_natCast]
  refine rM (fun hh => ?_) fun hh => ?_
  ·have hh : f0 c ≠ 0 := fun h => hh (by rw [h]; rfl)
   refine aZ (vs := B2 (f0 c)) fun t24 h2 f2 e2 o2 => ?_
   have z2 := f2.size
   have hkl := za f0 c
   refine (Q1.fr0 f2).app Hp Tryz.underlying205 (by intro k e; cases e) (by kernel_rfl) (by decide +kernel) vU (fun _ => rfl) o2 1 (by omega) fun p4 cap4 h4 Q4 f4 hn4 => ⟨_, _, _, rfl, ?_⟩
   rw [wr (by omega) (by omega)]
   refine hK (256 - (c + 1)) _ _ (by omega) ⟨c + 1, p4, cap4, rfl, ?_, rfl, rfl, by omega, rfl, (f1.trans f2).tr f4 fun x hx hh => by have := hn1 x hh; omega, ?_, fun x hx => ?_⟩
   ·rw [mu, if_neg hh]
   ·rw [mu, if_neg hh]; exact Q4
   ·rcases hn4 x hx with h | h
    ·exact hn1 x h
    ·omega
  ·have hh : f0 c = 0 := by omega
   rw [wr (by omega) (by omega)]
   refine hK (256 - (c + 1)) _ _ (by omega) ⟨c + 1, qa, qc, rfl, ?_, rfl, rfl, by omega, rfl, f1, ?_, hn1⟩
   ·rw [mu, if_pos hh]
   ·rw [mu, if_pos hh]; exact Q1
 have : c = 256 := by omega
 subst this
 clear e hK
 unfold im
 have hend : ∀ h' sg', Fr (fun x => o1 x = k + 2 ∨ h.size ≤ x) h h' → jF o1 k h' a sg' pq pn pc → x7 sg' ws E → Q (.tuple #[]) h' := fun h' sg' f A D =>
  hk o1 h' sg' hO hup ⟨f.size, fun x hx hs => f.same x hx fun hh => hh.elim (fun e => hs (by rw [← hlo x hx]; exact e)) fun e => absurd hx (by omega)⟩ A D
 have hbq := za f0 256
 refine aJ.go (fun n st h' => ∃ (Ds Qs : List Nat) (sg' : List St) (p' : Option Addr) (cap' : Nat), st.1 = p' ∧ st.2.1 = Qs.length ∧ st.2.2 = cap' ∧ Ds.Nodup ∧ (∀ i ∈ Ds, i < sg.length) ∧ sg'.length = sg.length ∧ n = sg.length - Ds.length ∧ Fr (fun x => o1 x = k + 2 ∨ h.size ≤ x) h h' ∧ jF o1 k h' a sg' pq pn pc ∧ Lq sg' ws E (· ∈ Ds) Qs ∧ Que 1 B2 h' p' cap' Qs ∧ (∀ x, InA p' x → h.size ≤ x)) (sg.length - 1)
  ⟨[0], nV f0 256, sg, qa, qc, rfl, rfl, rfl, by simp, fun i hi => by rw [List.mem_singleton.1 hi]; exact h0, rfl, rfl, f1.mono fun _ h => h.elim, A'.fr0 f1, St0, Q1, hn1⟩ ?_
 rintro n ⟨qa, qn, qc⟩ h2 ⟨Ds, Qs, s2, p2, cap2, e1, e2, e3, hdn, hdl, hl2, rfl, f2, A2, L2, Q2, hn2⟩ Kn3 hK
 dsimp only at e1 e2 e3
 subst e1 e2 e3
 dsimp only
 unfold gX
 have z2 := f2.size
 refine ifD (fun e => ?_) fun e => ?_
 ·cases Qs with
  | nil => exact absurd e (by simp)
  | cons now q' =>
   have hap := L2.apart now List.mem_cons_self
   have hnow := hap.2
   obtain ⟨w, hw⟩ := L2.word hnow
   have hb := L2.back hw hnow
   rw [gH hnow] at hb
   have hbl := L2.lt hb.1
   have hol := L2.ou _ hbl _ hb.1 hb.2
   have hQl : (now :: q').length ≤ sg.length := yK L2.qnd fun x hx => by have := (L2.apart x hx).2; omega
   rw [List.length_cons] at hQl
   obtain ⟨q3, c3, hc3, hcs3⟩ := A2.cell
   obtain ⟨ad3, hq3, cn⟩ := hcs3 now hnow
   subst hq3
   have hne : now ≠ (gt s2 now).fa := fun h => hap.1 (by rw [h]; exact hb.2)
   refine Q2.idx vU (by decide) 0 rfl (by simp) fun ad4 c4 => ?_
   refine aB (c4.at0 rfl) ?_
   refine Q2.pop vU (by decide) fun p5 cap5 hi5 Q5 => ?_
   have hgn : s2[now] = gt s2 now := gH hnow
   have hQl5 : q'.length ≤ 40000 := by omega
   have hbe : s2[now].fa = (gt s2 now).fa := by rw [hgn]
   have hwne : w ≠ [] := fun h => by
    subst h
    have := iV L2.nd hw L2.z
    subst this; exact hap.1 L2.root
   have fin : ∀ h4 o', Fr (fun x => o1 x = k + 2 ∨ h.size ≤ x) h2 h4 → (∀ x, x < h2.size → h.size ≤ x → h4[x]? = h2[x]?) → hcell h4 a = some (.slice (some ad3) s2.length c3) → jF o1 k h4 a (s2.set now { gt s2 now with ou := o' }) pq pn pc → ws[o']? = some (tB ws E w) →
     cD (some a) p5 q'.length cap5 (ad3.add (now * 259)) (ad3.add ((gt s2 now).fa * 259)) Q Kn3 h4 := fun h4 o' f4 hs4 hc4 A4 ho' => by
    have z4 := f4.size
    have f40 : Fr (fun x => x < h.size) h2 h4 := ⟨z4, fun x hx hs => hs4 x hx (by omega)⟩
    have g : ∀ i, gt (s2.set now { gt s2 now with ou := o' }) i = if now = i then { gt s2 now with ou := o' } else gt s2 i := oN hnow _
    have gn : gt (s2.set now { gt s2 now with ou := o' }) now = { gt s2 now with ou := o' } := by rw [g, if_pos rfl]
    have gb : gt (s2.set now { gt s2 now with ou := o' }) (gt s2 now).fa = gt s2 (gt s2 now).fa := by rw [g, if_neg hne]
    have ls : (s2.set now { gt s2 now with ou := o' }).length = s2.length := List.length_set
    have yes : ∀ c : UInt8, (gt s2 now).nx c.toNat ≠ 0 → ws[(gt s2 now).nx c.toNat]? = some (w ++ [c]) := fun c hc => by
     have := L2.yes now hnow w c hw hap.1 (by rw [hgn]; exact hc)
     rw [hgn] at this; exact this
    refine IF (h0 := h) (by rw [ls]; omega) hQl5 A4 (by rw [ls]; exact hc4) (by rw [ls]; exact hnow) (by rw [ls]; exact hbl) hne (fun d hd => ?_) (fun d hd => ?_) (fun c d hc hd hz he => ?_) (Q5.fr f40 fun x hx hh => by have := hn2 x (hi5 x hx); omega) (by omega) (fun x hx => hn2 x (hi5 x hx)) hup fun h6 s6 p6 cap6 f6 A6 I6 Q6 hn6 => ?_
    ·rw [gn, ls]
     obtain ⟨c, rfl⟩ := yN hd
     by_cases hz : (gt s2 now).nx c.toNat = 0
     ·show (gt s2 now).nx _ < _; rw [hz]; omega
     ·exact L2.lt (yes c hz)
    ·rw [gb, ls]
     obtain ⟨c, rfl⟩ := yN hd
     have := L2.dn _ hbl _ c hb.1 hb.2
     rw [gH hbl] at this
     exact L2.lt this
    ·rw [gn] at hz he
     obtain ⟨x, rfl⟩ := yN hc
     obtain ⟨y, rfl⟩ := yN hd
     have hz : (gt s2 now).nx x.toNat ≠ 0 := hz
     have he : (gt s2 now).nx x.toNat = (gt s2 now).nx y.toNat := he
     have e1 := yes x hz
     have e2 := yes y (by rw [← he]; exact hz)
     rw [he, e2] at e1
     have := (List.append_inj' (Option.some.inj e1) rfl).2
     rw [(List.cons.inj this).1]
    ·rw [gn, gb] at I6
     have I : Inn s2 s6 now (gt s2 now).nx (gt s2 (gt s2 now).fa).nx o' 256 := by
      refine ⟨by rw [I6.len, ls], fun i => ?_, fun i => ?_, fun i d hd => ?_, I6.fa1, fun i hi => ?_⟩
      ·rw [I6.en, g]; split
       ·rename_i hh; rw [← hh]
       ·rfl
      ·rw [I6.ou]; split
       ·rfl
       ·rename_i hh; rw [g, if_neg (fun h => hh h.symm)]
      ·rw [I6.nx i d hd]; split
       ·rfl
       ·rename_i hh; rw [g, if_neg (fun h => hh h.symm)]
      ·rw [I6.fa0 i hi, g]; split
       ·rename_i hh; rw [← hh]
       ·rfl
     have L6 := L2.pop hw ho' I
     rw [gn] at Q6
     have e6 : (gt (s2.set now { gt s2 now with ou := o' }) now).nx = (gt s2 now).nx := by rw [gn]
     rw [e6]
     have hdn6 : (now :: Ds).Nodup := List.nodup_cons.2 ⟨hap.1, hdn⟩
     have hdl6 : ∀ i ∈ now :: Ds, i < sg.length := fun i hi => by
      rcases List.mem_cons.1 hi with h | h
      ·omega
      ·exact hdl i h
     have hdle := yK hdn6 hdl6
     rw [List.length_cons] at hdle
     have eD : (fun i => i ∈ Ds ∨ i = now) = (fun i => i ∈ now :: Ds) := by
      funext i; rw [List.mem_cons]; exact propext or_comm
     rw [eD] at L6
     exact hK (sg.length - (now :: Ds).length) _ _ (by rw [List.length_cons]; omega) ⟨now :: Ds, _, s6, p6, cap6, rfl, rfl, rfl, hdn6, hdl6, by rw [I.len]; exact hl2, rfl, (f2.trans (f4.mono fun _ h => h)).tr f6 fun x hx hh => hh, A6, L6, Q6, hn6⟩
   refine aS (aC hc3 (bO now rfl hnow (aS (aS (aC hc3 ?_)))))
   rw [Int.toNat_natCast]
   have efa : (stV s2[now])[256]? = some (.int .u16 ((gt s2 now).fa : Nat)) := by rw [← hbe]; exact IY _
   refine aB (cn.at efa) (bO _ rfl hbl (aS (aB (cn.at efa) ?_)))
   rw [Int.toNat_natCast]
   have nqt : ∀ x, h.size ≤ x → o1 x ≠ k + 2 := fun x hx => by have := hup x hx; omega
   refine A2.put hc3 rfl now hnow (j := 257) (by omega) (v := .int .u16 ((gt s2 now).fa : Nat)) rfl { gt s2 now with ou := (gt s2 now).fa } (by rw [hgn]; exact Hf _ _) (by rw [hgn]) (by rw [hgn]) (by rw [hgn]) fun h3 f3 A3 => ?_
   have z3 := f3.size
   have hca3 := f3.hcell hc3 fun hh => by have := A2.tag; omega
   obtain ⟨q7, c7, hc7, hcs7⟩ := A3.cell
   have e7 := hca3.symm.trans hc7
   simp only [Option.some.injEq, Value.slice.injEq] at e7
   obtain ⟨rfl, _, rfl⟩ := e7
   obtain ⟨ad7, had7, cb⟩ := hcs7 (gt s2 now).fa (by rw [List.length_set]; exact hbl)
   cases had7
   rw [List.getElem_set_ne hne] at cb
   refine aC (cb.at (Bh _)) ?_
   have hen := L2.en _ hbl _ hb.1
   refine ifE (fun h0e => ?_) fun h0e => ?_
   ·refine aB (cb.at (Ha _)) ?_
    refine A3.put hc7 rfl now (by rw [List.length_set]; exact hnow) (j := 257) (by omega) (v := .int .u16 (s2[(gt s2 now).fa].ou : Nat)) rfl { gt s2 now with ou := s2[(gt s2 now).fa].ou } (by rw [List.getElem_set_self]; exact Hf _ _) (by rw [List.getElem_set_self]) (by rw [List.getElem_set_self]) (by rw [List.getElem_set_self]) fun h4 f4 A4 => ?_
    rw [List.set_set] at A4
    refine fin h4 _ ((f3.mono fun _ h => .inl h).trans (f4.mono fun _ h => .inl h)) (fun x hx hh => ?_) (f4.hcell hca3 fun hh => by have := A2.tag; omega) A4 ?_
    ·rw [f4.same x (by omega) (nqt x hh), f3.same x hx (nqt x hh)]
    ·rw [uq E hwne, if_neg (by rw [← hen]; intro h; apply h; exact List.length_eq_zero_iff.1 (by omega))]
     exact hol
   ·refine fin h3 _ (f3.mono fun _ h => .inl h) (fun x hx hh => f3.same x hx (nqt x hh)) hca3 A3 ?_
    rw [uq E hwne, if_pos (by rw [← hen]; intro h; rw [h] at h0e; exact h0e rfl)]
    exact hb.1
 ·have : Qs = [] := List.length_eq_zero_iff.1 (by omega)
  subst this
  exact hend h2 s2 f2 A2 L2.done
end
end Go.Proofs.YtjmfpeiidlpngaaGreatDoor.Au
namespace Go.Proofs.YtjmfpeiidlpngaaGreatDoor.Au
set_option linter.unusedSimpArgs false
set_option linter.unusedVariables false
set_option maxRecDepth 20000
open Go
open Go.IntKind (wrap)
structure Ez (h : aA) (a : Addr) (sg : List St) (L : List Pt) : Prop where
 blk : ∃ q cq pq pc, aW h a [.slice q sg.length cq, .slice pq L.length pc] ∧ (∀ i (hi : i < sg.length), ∃ ad, q = some ad ∧ aW h (ad.add (i * 259)) (stV sg[i])) ∧ Hw h pq L
 ends : ∀ i (hi : i < sg.length), Row 1 inV h sg[i].eq sg[i].ec sg[i].en
def Fh (N : Nat) (h : aA) (a : Addr) (sg : List St) (L : List Pt) : Prop := N ≤ h.size ∧ ∀ h', Fr (fun x => N ≤ x) h h' → Ez h' a sg L
theorem Fh.fr {S : Nat → Prop} {N : Nat} {h h' : aA} {a : Addr} {sg : List St} {L : List Pt} (A : Fh N h a sg L) (f : Fr S h h') (hs : ∀ x, x < h.size → S x → N ≤ x) : Fh N h' a sg L :=
 ⟨Nat.le_trans A.1 f.size, fun h2 f2 => A.2 h2 ((f.mono' hs).trans f2)⟩
theorem Fh.now {N : Nat} {h : aA} {a : Addr} {sg : List St} {L : List Pt} (A : Fh N h a sg L) : Ez h a sg L := A.2 h (Fr.refl _ _)
structure wk (N : Nat) (h : aA) (a : Addr) (sg : List St) (ws : List Nm) (L : List Pt) : Prop where
 s : Fh N h a sg L
 d : x7 sg ws (iC L L.length)
 w : ∀ w, w ∈ ws ↔ u3 L L.length w
 n : ws.length ≤ 40000
 m : L.length ≤ 512
 ok : qq L = 0
theorem wk.fr {S : Nat → Prop} {N : Nat} {h h' : aA} {a : Addr} {sg : List St} {ws : List Nm} {L : List Pt} (A : wk N h a sg ws L) (f : Fr S h h') (hs : ∀ x, x < h.size → S x → N ≤ x) : wk N h' a sg ws L := { A with s := A.s.fr f hs }
theorem wk.fr0 {N : Nat} {h h' : aA} {a : Addr} {sg : List St} {ws : List Nm} {L : List Pt} (f : Fr (fun _ => False) h h') (A : wk N h a sg ws L) : wk N h' a sg ws L := A.fr f fun _ _ h => h.elim
end Go.Proofs.YtjmfpeiidlpngaaGreatDoor.Au
namespace Go.Proofs.YtjmfpeiidlpngaaGreatDoor
set_option linter.unusedSimpArgs false
set_option linter.unusedVariables false
set_option maxRecDepth 20000
open Go
open Go.IntKind (wrap)
def Kp (B : Nat → Prop) (h : aA) (P : aA → Prop) : Prop := ∀ h', Fr (fun x => ¬ B x) h h' → P h'
theorem Kp.now {B : Nat → Prop} {h : aA} {P : aA → Prop} (k : Kp B h P) : P h := k h (Fr.refl _ _)
theorem Kp.fr {B B' S : Nat → Prop} {h h' : aA} {P : aA → Prop} (s : Kp B h P) (f : Fr S h h') (h1 : ∀ x, x < h.size → B x → ¬ S x) (h2 : ∀ x, x < h.size → B x → B' x) : Kp B' h' P := fun h'' f2 =>
 s h'' ⟨Nat.le_trans f.size f2.size, fun x hx hn => by
  have hB : B x := Classical.byContradiction hn
  rw [f2.same x (Nat.lt_of_lt_of_le hx f.size) (fun hh => hh (h2 x hx hB)), f.same x hx (h1 x hx hB)]⟩
theorem Kp.fr0 {B : Nat → Prop} {h h' : aA} {P : aA → Prop} (f : Fr (fun _ => False) h h') (s : Kp B h P) : Kp B h' P := s.fr f (fun _ _ _ => id) fun _ _ => id
theorem Kp.and {B : Nat → Prop} {h : aA} {P P' : aA → Prop} (s : Kp B h P) (s' : Kp B h P') : Kp B h (fun h' => P h' ∧ P' h') := fun h' f => ⟨s h' f, s' h' f⟩
def HLe (h h' : aA) : Prop := ∀ a v, hcell h a = some v → hcell h' a = some v
theorem HLe.cells {h h' : aA} (l : HLe h h') {a : Addr} {vs : List Value} (c : aW h a vs) : aW h' a vs := fun j hj => l _ _ (c j hj)
theorem bF.hle {α : Type} {sz : Nat} {vals : α → List Value} {ok : aA → α → Prop} {h h' : aA} {s : Sl α} (l : HLe h h') (hok : ∀ x, ok h x → ok h' x) (o : bF sz vals ok h s) : bF sz vals ok h' s :=
 ⟨o.len, o.cap, fun i hi => by obtain ⟨ad, h1, h2, h3⟩ := o.at_ i hi; exact ⟨ad, h1, l.cells h2, hok _ h3⟩⟩
theorem HLe.group {h h' : aA} (l : HLe h h') {r : bD} (o : bD.ok h r) : bD.ok h' r :=
 ⟨o.k0, o.k1.hle l fun _ h => h, o.k2.hle l fun _ h => ⟨h.k0, h.k1⟩, o.k3.hle l fun _ h => h.hle l fun _ h => h, o.k4.hle l fun _ h => h⟩
theorem HLe.groups {h h' : aA} (l : HLe h h') {g : Sl bD} (o : bF 5 bD.vals bD.ok h g) : bF 5 bD.vals bD.ok h' g := o.hle l fun _ h => l.group h
theorem DU {m : Nat} {h h' : aA} {mm : List (Int × Value)} (I : uL (yA .i64) h m mm) (f : Fr (fun x => x = m ∨ h.size ≤ x) h h') : HLe h h' := by
 intro a v hv
 obtain ⟨es, c, hm, _, _⟩ := I
 unfold D8 at hm
 have hb : a.block < h.size := by
  rcases Nat.lt_or_ge a.block h.size with hb | hb
  ·exact hb
  ·unfold hcell at hv
   rw [Array.getElem?_eq_none hb] at hv
   cases hv
 have hne : a.block ≠ m := fun e => by
  unfold hcell at hv
  rw [e, hm] at hv
  cases hv
 unfold hcell at hv ⊢
 rw [f.same _ hb fun hh => by rcases hh with hh | hh; exact hne hh; omega]
 exact hv
namespace Au
structure IG (sg : List St) (ws : List Nm) (L : List Pt) : Prop where
 d : x7 sg ws (iC L L.length)
 w : ∀ w, w ∈ ws ↔ u3 L L.length w
 n : ws.length ≤ 40000
 m : L.length ≤ 512
 ok : qq L = 0
theorem FC [Gh] (s : Sl Pt) {ok : aA → Pt → Prop} {h : aA} (os : bF 2 ptV ok h s) (okf : ∀ h h' x, Fr (fun _ => False) h h' → ok h x → ok h' x) (hl : s.xs.length ≤ 512) (he : qq s.xs = 0) {Q : Value → aA → Prop}
  (hk : ∀ a h' sg ws, Fr (fun _ => False) h h' → Kp (fun x => h.size ≤ x) h' (fun h'' => Ez h'' a sg s.xs) → IG sg ws s.xs → Q (.tuple #[.pointer (some a), .int .i64 0]) h') :
  aD Tryz.prog jW #[.slice s.p s.xs.length s.cap] h Q := by
 refine E8 s os okf (by omega) (fun x => 0) 0 (fun _ _ => Nat.le_refl _) (fun h' f hn => by omega) (fun h' f hn he' => absurd he he') fun a o' h' sg ws pq pc hO hr f A R hpq T hw hN hm he => ?_
 unfold iu
 refine IR A T hN fun o2 h2 sg2 hO2 hr2 f2 A2 D => ⟨rfl, ?_⟩
 have R2 := R.fr f2 fun x hx hh => by have := (hpq x hx).2; omega
 have old : ∀ x, x < h.size → o2 x = 0 := fun x hx => by
  have := f.size
  rw [hO2 x (by omega), hO x hx]
 refine hk a h2 sg2 ws (f.tr f2 fun x hx hh => by have := hO x hx; simp only at this; omega) (fun h3 f3 => ?_) ⟨D, hw, hN, hm, he⟩
 have A3 := A2.fr (o' := o2) f3 (fun x hx hh => .inl (by rw [old x (by omega)]; exact Nat.le_refl _)) (Old.refl _ _)
 have R3 := R2.fr f3 fun x hx hh => hh (hpq x hx).1
 obtain ⟨q, c, ow, Q, _⟩ := A3.ex
 exact ⟨⟨q, c, pq, pc, ow.cells, fun i hi => Q.cellsAt qw (by omega) i hi, fun i hi => R3.cellsAt xN (by omega) i hi⟩, fun i hi => (A3.ends i hi).1⟩
theorem IG.auto {N : Nat} {h : aA} {a : Addr} {sg : List St} {ws : List Nm} {L : List Pt} (d : IG sg ws L) (k : Kp (fun x => x < N) h fun h' => Ez h' a sg L) (hN : N ≤ h.size) : wk N h a sg ws L :=
 ⟨⟨hN, fun h' f => k h' (f.mono fun x hx => by omega)⟩, d.d, d.w, d.n, d.m, d.ok⟩
end Au
end Go.Proofs.YtjmfpeiidlpngaaGreatDoor
namespace Go.Proofs.YtjmfpeiidlpngaaGreatDoor
set_option linter.unusedSimpArgs false
set_option linter.unusedVariables false
set_option maxRecDepth 20000
open Go
open Go.IntKind (wrap)
def Bl (r : bG) : Au.Pt := ⟨r.Text, r.Nocase⟩
def ptS (s : Sl bG) : Sl Au.Pt := ⟨s.p, s.cap, s.xs.map Bl⟩
theorem Ju {h : aA} {s : Sl bG} (o : bF 2 bG.vals bG.ok h s) : bF 2 Au.ptV (fun _ _ => True) h (ptS s) := by
 refine ⟨by show (s.xs.map Bl).length ≤ _; rw [List.length_map]; exact o.1, by show (s.xs.map Bl).length ≤ _; rw [List.length_map]; exact o.cap, fun i hi => ?_⟩
 have hi' : i < s.xs.length := by have : i < (s.xs.map Bl).length := hi; rwa [List.length_map] at this
 obtain ⟨ad, h1, h2, _⟩ := o.at_ i hi'
 refine ⟨ad, h1, ?_, trivial⟩
 have e : (s.xs.map Bl)[i]'(by rw [List.length_map]; exact hi') = Bl s.xs[i] := List.getElem_map ..
 show aW h (ad.add (i * 2)) (Au.ptV ((s.xs.map Bl)[i]'(by rw [List.length_map]; exact hi')))
 rw [e]; exact h2
def adV (a : Addr) : List Value := [.pointer (some a)]
theorem uo (a : Addr) : (adV a).length = 1 := rfl
theorem xW (a : Addr) : (adV a).all ee = true := rfl
theorem Dc : gM Tryz.prog aX eJ Tryz.t92 (.pointer none) := ⟨Tryz.underlying91, by kernel_rfl, by kernel_rfl, by kernel_rfl, by decide +kernel⟩
theorem Ed {h : aA} {K : Value → aA → Prop} (hk : K (.slice none 0 0) h) : wpH Tryz.prog (zeroValue aX) K h := AJ (i := Tryz.t91) (by kernel_rfl) (by kernel_rfl) hk
abbrev Gr := bD
def GpB (B : Nat → Prop) (h : aA) (a : Addr) (g : Gr) : Prop := ∃ au sg ws, Kp B h (fun h' => aW h' a (g.vals ++ [.pointer (some au)]) ∧ bD.ok h' g) ∧ Kp B h (fun h' => Au.Ez h' au sg (ptS g.Patterns).xs) ∧ Au.IG sg ws (ptS g.Patterns).xs
theorem GpB.fr {B B' S : Nat → Prop} {h h' : aA} {a : Addr} {g : Gr} (G : GpB B h a g) (f : Fr S h h') (h1 : ∀ x, x < h.size → B x → ¬ S x) (h2 : ∀ x, x < h.size → B x → B' x) : GpB B' h' a g := by
 obtain ⟨au, sg, ws, k1, k2, d⟩ := G
 exact ⟨au, sg, ws, k1.fr f h1 h2, k2.fr f h1 h2, d⟩
structure Gps (B : Nat → Prop) (h : aA) (av : List Addr) (gs : List Gr) : Prop where
 len : av.length = gs.length
 at_ : ∀ i (h1 : i < av.length) (h2 : i < gs.length), GpB B h av[i] gs[i]
theorem Gps.fr {B B' S : Nat → Prop} {h h' : aA} {av : List Addr} {gs : List Gr} (G : Gps B h av gs) (f : Fr S h h') (h1 : ∀ x, x < h.size → B x → ¬ S x) (h2 : ∀ x, x < h.size → B x → B' x) : Gps B' h' av gs := ⟨G.len, fun i a b => (G.at_ i a b).fr f h1 h2⟩
theorem Gps.nil {B : Nat → Prop} {h : aA} : Gps B h [] [] := ⟨rfl, fun i h => absurd h (Nat.not_lt_zero _)⟩
theorem Gps.snoc {B : Nat → Prop} {h : aA} {av : List Addr} {gs : List Gr} (G : Gps B h av gs) {a : Addr} {g : Gr} (n : GpB B h a g) : Gps B h (av ++ [a]) (gs ++ [g]) := by
 refine ⟨by simp [G.len], fun i h1 h2 => ?_⟩
 have hl := G.len
 rw [List.length_append, List.length_singleton] at h1 h2
 by_cases hi : i < av.length
 ·rw [List.getElem_append_left hi, List.getElem_append_left (by omega)]; exact G.at_ i hi (by omega)
 ·have : i = av.length := by omega
  subst this
  rw [List.getElem_append_right (Nat.le_refl _), List.getElem_append_right (by omega)]
  simpa using n
theorem GF {κ : Type} [DecidableEq κ] (m : List (κ × Value)) (a b : κ) (v : Value) : oy (B1 m a v) b = if b = a then some v else oy m b := by
 by_cases hs : (oy m a).isSome
 ·unfold B1; rw [if_pos hs]
  obtain ⟨e, he, hk⟩ := rp.1 hs
  induction m with
  | nil => cases he
  | cons x m ih =>
   unfold oy at ih ⊢
   rw [List.map_cons, List.find?_cons, List.find?_cons]
   by_cases hxa : x.1 = a
   ·rw [if_pos hxa]
    by_cases hb : b = a
    ·subst hb; simp [hxa]
    ·have h1 : ¬ x.1 = b := fun e => hb (e.symm.trans hxa)
     simp only [h1, decide_false, hb, if_false]
     rw [List.find?_map]
     have : ((fun e : κ × Value => decide (e.1 = b)) ∘ fun e => if e.1 = a then (e.1, v) else e) = fun e => decide (e.1 = b) := by
      funext e; simp only [Function.comp]; split <;> rfl
     rw [this, Option.map_map]
     cases hf : m.find? (fun e => decide (e.1 = b)) with
     | none => rfl
     | some y =>
      have := List.find?_some hf
      have hya : ¬ y.1 = a := fun e => hb ((of_decide_eq_true this).symm.trans e)
      simp [hya]
   ·rw [if_neg hxa]
    by_cases hxb : x.1 = b
    ·have : ¬ b = a := fun e => hxa (hxb.trans e)
     simp [hxb, this]
    ·simp only [hxb, decide_false]
     rcases List.mem_cons.1 he with rfl | he
     ·exact absurd hk hxa
     ·exact ih (rp.2 ⟨e, he, hk⟩) he
 ·unfold B1; rw [if_neg hs]
  have hn : oy m a = none := by cases h : oy m a with
   | none => rfl
   | some _ => rw [h] at hs; simp at hs
  unfold oy at hn ⊢
  rw [List.find?_append]
  by_cases hb : b = a
  ·subst hb
   rw [if_pos rfl]
   cases hf : m.find? (fun e => decide (e.1 = b)) with
   | none => simp
   | some y => rw [hf] at hn; cases hn
  ·rw [if_neg hb]
   have h1 : ¬ a = b := fun e => hb e.symm
   cases hf : m.find? (fun e => decide (e.1 = b)) with
   | none => simp [h1]
   | some y => simp
structure GsI (h2 : aA) (m : Nat) (gs : List Gr) (h : aA) (mm : List (Int × Value)) (o : Nat → Option Int) : Prop where
 fr : Fr (fun x => x = m ∨ h2.size ≤ x) h2 h
 map : uL (yA .i64) h m mm
 o0 : ∀ x, o x ≠ none → h2.size ≤ x ∧ x < h.size
 lt : m < h2.size
 kd : ∀ kind : Int, ∃ p c av, (oy mm kind).getD (.slice none 0 0) = .slice p (av : List Addr).length c ∧ Row 1 adV h p c av ∧ (∀ x, InA p x → o x = some kind) ∧ Gps (fun x => x ≠ m ∧ o x = none) h av (gs.filter fun g => g.Kind = kind)
theorem GsI.fr0 {h2 : aA} {m : Nat} {gs : List Gr} {h h' : aA} {mm : List (Int × Value)} {o : Nat → Option Int} (I : GsI h2 m gs h mm o) (f : Fr (fun _ => False) h h') : GsI h2 m gs h' mm o := by
 refine ⟨I.fr.tr f fun _ _ hh => hh.elim, I.map.fr f id, fun x hx => ?_, I.lt, fun kind => ?_⟩
 ·have := I.o0 x hx; have := f.size; omega
 ·obtain ⟨p, c, av, e, R, ho, G⟩ := I.kd kind
  exact ⟨p, c, av, e, R.fr0 f, ho, G.fr f (fun _ _ _ => id) fun _ _ => id⟩
theorem GsI.size {h2 : aA} {m : Nat} {gs : List Gr} {h : aA} {mm : List (Int × Value)} {o : Nat → Option Int} (I : GsI h2 m gs h mm o) : h2.size ≤ h.size := I.fr.size
theorem GsI.put [Gh] {h2 : aA} {m : Nat} {gs : List Gr} {h : aA} {mm : List (Int × Value)} {o : Nat → Option Int} (I : GsI h2 m gs h mm o) (g : Gr) {a t84 : Addr} {T : TypeId} (ob : Own h t84 [.pointer (some a)] T) (G : GpB (fun x => x ≠ m ∧ o x = none) h a g) (hl : gs.length ≤ 2 ^ 20) {p : Option Addr} {n c : Nat} (hg : (oy mm g.Kind).getD (.slice none 0 0) = .slice p n c) {s4 t11 : Addr}
  (own : ∀ h' S, Fr S h h' → (∀ x, S x → o x ≠ none) → hcell h' (s4.add 1) = some (.map (some m)) ∧ hcell h' t11 = some (.int .i64 g.Kind)) {K : aA → Prop}
  (hk : ∀ h' mm' o', Fr (fun x => x = m ∨ o x ≠ none) h h' → GsI h2 m (gs ++ [g]) h' mm' o' → K h') :
  dN Tryz.prog .append #[aX, aX] aX #[false, false] #[.slice p n c, .slice (some t84) 1 1] h fun v h23 => ∃ t85a : Option Addr, ∃ t85n : Nat, ∃ t85c : Nat, v = .slice t85a t85n t85c ∧ (ldM h23 (Addr.add s4 1) fun t970 => (.map t970 : Value) = .map (some m)) ∧ (ldI h23 t11 .i64 fun t972 => (.int .i64 t972 : Value) = .int .i64 g.Kind) ∧ qC Tryz.prog bJ (.map (some m)) (.int .i64 g.Kind) (.slice t85a t85n t85c) h23 fun h24 => K h24 := by
 obtain ⟨p', c', av, e, R, ho, Gs⟩ := I.kd g.Kind
 rw [hg] at e
 simp only [Value.slice.injEq] at e
 obtain ⟨rfl, rfl, rfl⟩ := e
 have zI := I.size
 have zm := I.lt
 have hfl : (gs.filter fun x => x.Kind = g.Kind).length ≤ gs.length := List.length_filter_le _ _
 refine R.app Dc Tryz.underlying91 (by intro k e; cases e) (by kernel_rfl) (by decide +kernel) uo xW ob 1 (by rw [Gs.len]; omega) fun p3 c3 h3 R3 f3 hn3 => ⟨_, _, _, rfl, ?_⟩
 have z3 := f3.size
 obtain ⟨c1, c2⟩ := own h3 _ f3 fun x hx => by rw [ho x hx]; simp
 refine ⟨kM c1 rfl, aB c2 rfl, ?_⟩
 have nm : ¬ InA p m := fun hh => by have := (I.o0 m (by rw [ho m hh]; simp)); omega
 have nm3 : ¬ InA p3 m := fun hh => by
  rcases hn3 m hh with h | h
  ·exact nm h
  ·omega
 refine zY Dl Tryz.underlying76 (I.map.fr f3 nm) g.Kind (.slice p3 (av ++ [a]).length c3) fun h4 f4 z4 M4 => ?_
 have F : Fr (fun x => InA p x ∨ x = m) h h4 := (f3.mono fun _ => .inl).trans (f4.mono fun _ => .inr)
 refine hk h4 _ (fun x => @ite _ (InA p3 x) (Classical.propDecidable _) (some g.Kind) (o x)) (F.mono fun x hx => ?_) ⟨I.fr.tr F fun x hx hh => ?_, M4, fun x hx => ?_, zm, fun kind => ?_⟩
 ·rcases hx with h | h
  ·exact .inr (by rw [ho x h]; simp)
  ·exact .inl h
 ·rcases hh with h | h
  ·have := I.o0 x (by rw [ho x h]; simp); exact .inr this.1
  ·exact .inl h
 ·have z4' := f4.size
  split at hx
  ·rename_i hin
   have := R3.lt hin
   rcases hn3 x hin with h | h
   ·have := I.o0 x (by rw [ho x h]; simp); omega
   ·omega
  ·have := I.o0 x hx; omega
 ·have hB : ∀ x, x < h.size → (x ≠ m ∧ o x = none) → ¬ (InA p x ∨ x = m) := fun x hx ⟨b1, b2⟩ hh => by
   rcases hh with hh | hh
   ·rw [ho x hh] at b2; cases b2
   ·exact b1 hh
  have hB2 : ∀ x, x < h.size → (x ≠ m ∧ o x = none) → (x ≠ m ∧ (@ite _ (InA p3 x) (Classical.propDecidable _) (some g.Kind) (o x)) = none) := fun x hx ⟨b1, b2⟩ => by
   refine ⟨b1, ?_⟩
   rw [if_neg fun hh => ?_]
   ·exact b2
   ·rcases hn3 x hh with h | h
    ·rw [ho x h] at b2; cases b2
    ·omega
  rw [GF]
  by_cases hkd : kind = g.Kind
  ·subst hkd
   rw [if_pos rfl]
   refine ⟨p3, c3, av ++ [a], rfl, R3.fr f4 fun x hx hh => nm3 (hh ▸ hx), fun x hx => if_pos hx, ?_⟩
   rw [List.filter_append]
   have := (Gs.fr F hB hB2).snoc (G.fr F hB hB2)
   simpa using this
  ·rw [if_neg hkd]
   obtain ⟨pk, ck, ak, ek, Rk, hok, Gk⟩ := I.kd kind
   refine ⟨pk, ck, ak, ek, Rk.fr F fun x hx hh => ?_, fun x hx => ?_, ?_⟩
   ·rcases hh with hh | hh
    ·have h1 := ho x hh; rw [hok x hx] at h1; exact hkd (by simpa using h1)
    ·have := I.o0 x (by rw [hok x hx]; simp); omega
   ·rw [if_neg fun hh => ?_]
    ·exact hok x hx
    ·rcases hn3 x hh with h | h
     ·have h1 := ho x h; rw [hok x hx] at h1; exact hkd (by simpa using h1)
     ·have := Rk.lt hx; omega
   ·rw [List.filter_append, List.filter_cons_of_neg (by simpa using fun e => hkd e.symm), List.filter_nil, List.append_nil]
    exact Gk.fr F hB hB2
end Go.Proofs.YtjmfpeiidlpngaaGreatDoor
namespace Go.Proofs.YtjmfpeiidlpngaaGreatDoor
set_option linter.unusedSimpArgs false
set_option linter.unusedVariables false
set_option maxRecDepth 20000
open Go
open Go.IntKind (wrap)
theorem GsI.nil {h2 : aA} {m : Nat} (I : uL (yA .i64) h2 m []) : GsI h2 m [] h2 [] fun _ => none :=
 ⟨Fr.refl _ _, I, fun x hx => absurd rfl hx, I.lt, fun kind => ⟨none, 0, [], rfl, Row.nil, fun x hx => (Fp.xU hx).elim, Gps.nil⟩⟩
set_option maxHeartbeats 1000000 in
theorem HE [Gh] (g : Sl Gr) {h2 : aA} (ok : bF 5 bD.vals bD.ok h2 g) {m : Nat} (I0 : uL (yA .i64) h2 m []) {A : Addr} {vA : Value} (oA0 : Own h2 A [vA, .map (some m)] oo) (nAm : A.block ≠ m) (hl : g.xs.length ≤ 40)
  (hb : ∀ gr ∈ g.xs, gr.Patterns.xs.length ≤ 512 ∧ Au.qq (ptS gr.Patterns).xs = 0) {Q : Value → aA → Prop}
  (hk : ∀ h mm o, GsI h2 m g.xs h mm o → Q (.tuple #[.pointer (some A), .int .i64 0]) h) :
  aJ (fun (s : Int) h Kn => fR A g.p g.xs.length g.cap ((g.xs.length : Nat) : Int) Q s h Kn) 0 h2 := by
 refine aJ.mk (fun st h' => ∃ (k : Nat) (mm : List (Int × Value)) (o : Nat → Option Int), st = (k : Int) ∧ k ≤ g.xs.length ∧ GsI h2 m (g.xs.take k) h' mm o)
  (fun st _ => g.xs.length - st.toNat) ⟨0, [], fun _ => none, rfl, by omega, GsI.nil I0⟩ ?_
 rintro st h1 ⟨k, mm, o, rfl, hkl, I⟩
 unfold fR
 refine ifD (fun hlt => ?_) (fun hge => ?_)
 ·have hi : k < g.xs.length := by omega
  have ok1 := (DU I0 I.fr).groups ok
  have hbk := hb _ (List.getElem_mem hi)
  have nA2 := oA0.lt
  have lm := I.lt
  have zI := I.size
  have oA : Own h1 A [vA, .map (some m)] oo := oA0.fr I.fr fun hh => by rcases hh with hh | hh; exact nAm hh; omega
  refine dH ok1 k rfl hi fun ad cc okr => ?_
  rw [Int.toNat_natCast]
  refine (aB (cc.at0 rfl) (aC (cc.at rfl) (aC (cc.at rfl) (aC (cc.at rfl) (aC (cc.at rfl) ?_)))))
  refine qf rfl rfl fun t11 h3 f3 ht11 o11 => ?_
  have z3 := f3.size
  refine aC (o11.cells.at (j := 2) rfl) ?_
  rw [show g.xs[k].Patterns.xs.length = (ptS g.xs[k].Patterns).xs.length from (List.length_map ..).symm]
  refine Au.FC (ptS g.xs[k].Patterns) (Ju (bD.ok_fr _ _ _ f3 okr).k2) (fun _ _ _ _ _ => trivial) (by show (g.xs[k].Patterns.xs.map Bl).length ≤ 512; rw [List.length_map]; exact hbk.1) hbk.2 fun a h4 sg ws f4 kx D => ⟨_, _, rfl, ?_⟩
  have z4 := f4.size
  have l11 := o11.lt
  have oA := (oA.fr0 f3).fr0 f4
  have o11 : Own h4 t11 g.xs[k].vals mw := o11.fr0 f4
  have I4 := (I.fr0 f3).fr0 f4
  refine kM (oA.cells.at (j := 1) rfl) (aB (o11.cells.at0 rfl) (kM (oA.cells.at (j := 1) rfl) (aB (o11.cells.at0 rfl) ?_)))
  refine (aB (o11.cells.at0 rfl) (aC (o11.cells.at rfl) (aC (o11.cells.at rfl) (aC (o11.cells.at rfl) (aC (o11.cells.at rfl) ?_)))))
  obtain ⟨p, c, av, hval, _, _, _⟩ := I4.kd g.xs[k].Kind
  have key : ∀ hx (t83 : Addr), Fr (fun _ => False) h4 hx → Own hx t83 (g.xs[k].vals ++ [.pointer (some a)]) j7 → h4.size ≤ t83.block → GpB (fun x => x ≠ m ∧ o x = none) hx t83 g.xs[k] := by
   intro hx t83 fx o83 n83
   have on : ∀ x, h1.size ≤ x → o x = none := fun x hx => Classical.byContradiction fun hh => by have := (I.o0 x hh).2; omega
   refine ⟨a, sg, ws, fun h' f' => ⟨(o83.fr f' fun hh => hh ⟨by omega, on _ (by omega)⟩).cells, ?_⟩, (kx.fr0 fx).fr (Fr.refl (fun _ => False) _) (fun _ _ _ => id) fun x hx hh => ⟨by omega, on x (by omega)⟩, D⟩
   refine (DU I0 ?_).group (by obtain ⟨_, _, _, o⟩ := ok.at_ k hi; exact o)
   have Ix := I4.fr0 fx
   refine Ix.fr.tr f' fun x hx hh => ?_
   refine Classical.byContradiction fun hn => hh ⟨fun e => hn (.inl e), Classical.byContradiction fun h5 => hn (.inr (I.o0 x h5).1)⟩
  have fin : ∀ hx (t83 t84 : Addr) {T : TypeId}, Fr (fun _ => False) h4 hx → Own hx t83 (g.xs[k].vals ++ [.pointer (some a)]) j7 → h4.size ≤ t83.block → Own hx t84 [.pointer (some t83)] T →
    dN Tryz.prog .append #[aX, aX] aX #[false, false] #[.slice p av.length c, .slice (some t84) 1 1] hx fun v h23 => ∃ t85a : Option Addr, ∃ t85n : Nat, ∃ t85c : Nat, v = .slice t85a t85n t85c ∧ (ldM h23 (Addr.add A 1) fun t970 => (.map t970 : Value) = .map (some m)) ∧ (ldI h23 t11 .i64 fun t972 => (.int .i64 t972 : Value) = .int .i64 g.xs[k].Kind) ∧ qC Tryz.prog bJ (.map (some m)) (.int .i64 g.xs[k].Kind) (.slice t85a t85n t85c) h23 fun h24 => (∃ (k' : Nat) (mm : List (Int × Value)) (o : Nat → Option Int), wrap .i64 ((k : Int) + 1) = (k' : Int) ∧ k' ≤ g.xs.length ∧ GsI h2 m (g.xs.take k') h24 mm o) ∧ g.xs.length - (wrap .i64 ((k : Int) + 1)).toNat < g.xs.length - (k : Int).toNat := by
   intro hx t83 t84 T fx o83 n83 o84
   refine (I4.fr0 fx).put g.xs[k] o84 (key hx t83 fx o83 n83) (by rw [List.length_take]; omega) hval (fun h' S f' hS => ?_) fun h' mm' o' f' I' => ?_
   ·have oAx := (oA.fr0 fx).fr f' fun hh => by have := (I.o0 _ (hS _ hh)).1; omega
    have o11x := (o11.fr0 fx).fr f' fun hh => by have := (I.o0 _ (hS _ hh)).2; omega
    exact ⟨oAx.cells.at (j := 1) rfl, o11x.cells.at0 rfl⟩
   ·rw [wr (by omega) (by omega)]
    refine ⟨⟨k + 1, mm', o', by omega, by omega, ?_⟩, by omega⟩
    rw [show g.xs.take (k + 1) = g.xs.take k ++ [g.xs[k]] by rw [List.take_append_getElem]]
    exact I'
  refine ⟨?_, ?_⟩
  ·refine vO Dl Tryz.underlying76 Ed I4.map g.xs[k].Kind false ?_
   rw [if_neg (by decide)]
   refine ⟨_, _, _, hval, (kM (oA.cells.at (j := 1) rfl) rfl), (aB (o11.cells.at0 rfl) rfl), (by refine (aB (o11.cells.at0 rfl) (aC (o11.cells.at rfl) (aC (o11.cells.at rfl) (aC (o11.cells.at rfl) (aC (o11.cells.at rfl) ?_))))); rfl), ?_⟩
   refine aZ (vs := g.xs[k].vals ++ [.pointer (some a)]) fun t83 h5 f5 e5 o83 => ?_
   have z5 := f5.size
   have oA := oA.fr0 f5
   have o11 := o11.fr0 f5
   refine ⟨(kM (oA.cells.at (j := 1) rfl) rfl), (aB (o11.cells.at0 rfl) rfl), (kM (oA.cells.at (j := 1) rfl) rfl), (aB (o11.cells.at0 rfl) rfl), ?_⟩
   refine aZ (vs := [.pointer (some t83)]) fun t84 h6 f6 e6 o84 => ?_
   have oA := oA.fr0 f6
   have o11 := o11.fr0 f6
   refine ⟨(kM (oA.cells.at (j := 1) rfl) rfl), (aB (o11.cells.at0 rfl) rfl), (kM (oA.cells.at (j := 1) rfl) rfl), (aB (o11.cells.at0 rfl) rfl), ?_⟩
   exact fin h6 t83 t84 (f5.trans f6) (o83.fr0 f6) (by omega) o84
  ·refine aZ (vs := g.xs[k].vals ++ [.pointer (some a)]) fun t83 h5 f5 e5 o83 => ?_
   have z5 := f5.size
   have oA := oA.fr0 f5
   have o11 := o11.fr0 f5
   refine ⟨(kM (oA.cells.at (j := 1) rfl) rfl), (aB (o11.cells.at0 rfl) rfl), (kM (oA.cells.at (j := 1) rfl) rfl), (aB (o11.cells.at0 rfl) rfl), ?_, ?_⟩
   ·refine vO Dl Tryz.underlying76 Ed (I4.map.fr f5 id) g.xs[k].Kind false ?_
    rw [if_neg (by decide)]
    refine ⟨_, _, _, hval, (kM (oA.cells.at (j := 1) rfl) rfl), (aB (o11.cells.at0 rfl) rfl), (by refine (aB (o11.cells.at0 rfl) (aC (o11.cells.at rfl) (aC (o11.cells.at rfl) (aC (o11.cells.at rfl) (aC (o11.cells.at rfl) ?_))))); rfl), ?_⟩
    refine aZ (vs := [.pointer (some t83)]) fun t84 h6 f6 e6 o84 => ?_
    have oA := oA.fr0 f6
    have o11 := o11.fr0 f6
    refine ⟨(kM (oA.cells.at (j := 1) rfl) rfl), (aB (o11.cells.at0 rfl) rfl), (kM (oA.cells.at (j := 1) rfl) rfl), (aB (o11.cells.at0 rfl) rfl), ?_⟩
    exact fin h6 t83 t84 (f5.trans f6) (o83.fr0 f6) (by omega) o84
   ·refine aZ (vs := [.pointer (some t83)]) fun t84 h6 f6 e6 o84 => ?_
    have oA := oA.fr0 f6
    have o11 := o11.fr0 f6
    refine ⟨(kM (oA.cells.at (j := 1) rfl) rfl), (aB (o11.cells.at0 rfl) rfl), (kM (oA.cells.at (j := 1) rfl) rfl), (aB (o11.cells.at0 rfl) rfl), ?_⟩
    refine vO Dl Tryz.underlying76 Ed ((I4.map.fr f5 id).fr f6 id) g.xs[k].Kind false ?_
    rw [if_neg (by decide)]
    refine ⟨_, _, _, hval, (kM (oA.cells.at (j := 1) rfl) rfl), (aB (o11.cells.at0 rfl) rfl), (by refine (aB (o11.cells.at0 rfl) (aC (o11.cells.at rfl) (aC (o11.cells.at rfl) (aC (o11.cells.at rfl) (aC (o11.cells.at rfl) ?_))))); rfl), ?_⟩
    exact fin h6 t83 t84 (f5.trans f6) (o83.fr0 f6) (by omega) o84
 ·have : k = g.xs.length := by omega
  subst this
  rw [List.take_length] at I
  exact hk h1 mm o I
end Go.Proofs.YtjmfpeiidlpngaaGreatDoor
namespace Go.Proofs.YtjmfpeiidlpngaaGreatDoor
set_option linter.unusedSimpArgs false
set_option linter.unusedVariables false
set_option maxRecDepth 20000
open Go
open Go.IntKind (wrap)
def vt (N : Nat) (h : aA) (s : Addr) (bs : List Bd) (gs : List Gr) : Prop := N ≤ h.size ∧ ∃ p1 c1 m mm, Kp (fun x => x < N) h (fun h' => aW h' s [.slice p1 bs.length c1, .map (some m)] ∧ Row 25 aE.vals h' p1 c1 bs ∧ (∀ b ∈ bs, aE.ok h' b) ∧ uL (yA .i64) h' m mm) ∧
 ∀ kind : Int, ∃ p c av, (oy mm kind).getD (.slice none 0 0) = .slice p (av : List Addr).length c ∧ Kp (fun x => x < N) h (fun h' => Row 1 adV h' p c av) ∧ Gps (fun x => x < N) h av (gs.filter fun g => g.Kind = kind)
theorem vt.fr {N : Nat} {S : Nat → Prop} {h h' : aA} {s : Addr} {bs : List Bd} {gs : List Gr} (T : vt N h s bs gs) (f : Fr S h h') (hs : ∀ x, x < h.size → S x → N ≤ x) : vt N h' s bs gs := by
 obtain ⟨hN, p1, c1, m, mm, k1, k2⟩ := T
 have h1 : ∀ x, x < h.size → x < N → ¬ S x := fun x hx hn hh => by have := hs x hx hh; omega
 refine ⟨Nat.le_trans hN f.size, p1, c1, m, mm, k1.fr f h1 fun _ _ => id, fun kind => ?_⟩
 obtain ⟨p, c, av, e, k, G⟩ := k2 kind
 exact ⟨p, c, av, e, k.fr f h1 fun _ _ => id, G.fr f h1 fun _ _ => id⟩
theorem vt.fr0 {N : Nat} {h h' : aA} {s : Addr} {bs : List Bd} {gs : List Gr} (f : Fr (fun _ => False) h h') (T : vt N h s bs gs) : vt N h' s bs gs := T.fr f fun _ _ h => h.elim
structure Snd (b : Bd) : Prop where
 ck : Au.DG b.Rule
 l1 : b.Src.xs.length ≤ 6
 l2 : b.Dst.xs.length ≤ 6
 l3 : b.SrcPorts.xs.length ≤ 6
 l4 : b.DstPorts.xs.length ≤ 6
theorem Snd.len {b : Bd} (s : Snd b) : I9 b := by
 obtain ⟨c, h1, h2, h3, h4⟩ := s
 have := c.src; have := c.dst; have := c.sp; have := c.dp; have := c.trn; have := c.conn; have := c.tesn; have := c.flon
 exact ⟨by omega, by omega, by omega, by omega, by omega, by omega, by omega, by omega, by omega, by omega, by omega, by omega⟩
theorem Snd.short {b : Bd} (s : Snd b) : Fp.Fw b.Rule := ⟨⟨by have := s.ck.conn; omega, fun c hc => by have := s.ck.con c hc; omega⟩, by have := s.ck.trn; omega⟩
theorem Snd.wipe {b b' : Bd} (s : Snd b) (e : wipe b' = wipe b) : Snd b' := by
 have hs : ∀ b : Bd, Snd (Go.Proofs.YtjmfpeiidlpngaaGreatDoor.wipe b) ↔ Snd b := fun b => ⟨fun ⟨c, h1, h2, h3, h4⟩ => ⟨⟨c.act, c.proto, c.sid, c.prio, c.dir, c.kind, c.msg, c.trn, c.conn, c.tesn, c.flon, c.src, c.dst, c.sp, c.dp, c.tr, c.con, c.tes, c.flo⟩, h1, h2, h3, h4⟩,
  fun ⟨c, h1, h2, h3, h4⟩ => ⟨⟨c.act, c.proto, c.sid, c.prio, c.dir, c.kind, c.msg, c.trn, c.conn, c.tesn, c.flon, c.src, c.dst, c.sp, c.dp, c.tr, c.con, c.tes, c.flo⟩, h1, h2, h3, h4⟩⟩
 exact (hs b').1 (e ▸ (hs b).2 s)
theorem yp {P : List Fp.Grp → Prop} (l : List Fp.Ru) (ha : ∀ k gs, ∀ r ∈ l, P gs → P (Fp.xB k r gs)) : ∀ (l' : List Fp.Ru), (∀ r ∈ l', r ∈ l) → ∀ k gs, P gs → P (Fp.fG l' k gs)
 | [], _, _, _, h => h
 | r :: l', hl, k, gs, h => by
  rw [Fp.fG]
  exact yp l ha l' (fun x hx => hl x (List.mem_cons_of_mem _ hx)) _ _ (ha k gs r (hl r (by simp)) h)
def ER (gs : List Fp.Grp) : Prop := ∀ g ∈ gs, ∀ p ∈ g.pats, 1 ≤ p.1.length ∧ p.1.length ≤ 64
theorem B0 {cs : List Fp.Cn} (sh : ∀ c ∈ cs, 1 ≤ c.Pattern.length ∧ c.Pattern.length ≤ 64) {p : List UInt8 × Bool} (hp : Fp.vq cs = some p) : 1 ≤ p.1.length ∧ p.1.length ≤ 64 := by
 unfold Fp.vq at hp
 split at hp
 ·cases hp
 ·rename_i hneg
  have hlt := Fp.sv cs
  simp only [Option.some.injEq] at hp
  subst hp
  have hk : (Fp.gJ cs).toNat < cs.length := by omega
  have e : cs.getD (Fp.gJ cs).toNat Fp.noC = cs[(Fp.gJ cs).toNat] := by rw [List.getD_eq_getElem?_getD, List.getElem?_eq_getElem hk]; rfl
  have := sh _ (List.getElem_mem hk)
  simp only [e]
  split
  ·simpa using this
  ·exact this
theorem ER.add {gs : List Fp.Grp} (s : ER gs) (k : Nat) (r : Fp.Ru) (sh : ∀ c ∈ r.Contents.xs, 1 ≤ c.Pattern.length ∧ c.Pattern.length ≤ 64) : ER (Fp.xB k r gs) := by
 have hs : ER (Fp.sN r gs) := by
  intro g hg
  unfold Fp.sN at hg
  split at hg
  ·rcases List.mem_append.1 hg with hg | hg
   ·exact s g hg
   ·rw [List.mem_singleton.1 hg]; intro p hp; cases hp
  ·exact s g hg
 intro g hg
 rcases Fp.md hg with hg | ⟨y, hy, rfl⟩
 ·exact hs g hg
 ·unfold Fp.qZ
  split
  ·exact hs y hy
  ·rename_i p hp
   split
   ·intro q hq
    rcases List.mem_append.1 hq with hq | hq
    ·exact hs y hy q hq
    ·rw [List.mem_singleton.1 hq]; exact B0 sh hp
   ·exact hs y hy
theorem vu (l : List Fp.Ru) : ∀ n k gs, k + n = l.length → Fp.rD k gs → Fp.rD l.length (Fp.fG (l.drop k) k gs)
 | 0, k, gs, e, s => by rw [List.drop_eq_nil_of_le (by omega), Fp.fG]; rw [← e]; exact s
 | n + 1, k, gs, e, s => by
  rw [Fp.xl l k (by omega)]
  exact vu l n (k + 1) _ (by omega) (s.add _)
theorem Gc (l : List Fp.Ru) : Fp.rD l.length (Fp.oj l) := by
 have := vu l l.length 0 [] (by omega) ⟨Nat.le_refl _, fun g hg => by cases hg⟩
 rwa [List.drop_zero] at this
theorem Kc (l : List Fp.Ru) (sh : ∀ r ∈ l, ∀ c ∈ r.Contents.xs, 1 ≤ c.Pattern.length ∧ c.Pattern.length ≤ 64) : ER (Fp.oj l) :=
 yp l (fun k gs r hr h => h.add k r (sh r hr)) l (fun _ h => h) 0 [] fun g hg => by cases hg
theorem Ae : ∀ L : List Au.Pt, (∀ p ∈ L, 1 ≤ p.t.length ∧ p.t.length ≤ 64) → Au.qq L = 0
 | [], _ => rfl
 | p :: L, h => by
  have := h p (by simp)
  unfold Au.qq
  rw [if_neg (fun e => by rw [e] at this; simp at this), if_neg (by omega)]
  exact Ae L fun q hq => h q (List.mem_cons_of_mem _ hq)
theorem uV : ∀ (l : List Fp.Ru) k gs, Fp.fG (l.map IM) k gs = Fp.fG l k gs
 | [], _, _ => rfl
 | r :: l, k, gs => by rw [List.map_cons, Fp.fG, Fp.fG, uV l]; rfl
def iF (l : List Bd) : List Fp.Grp := Fp.oj (l.map (·.Rule))
theorem sA {l l' : List Bd} (e : l.map wipe = l'.map wipe) : iF l = iF l' := by
 have h : ∀ l : List Bd, iF l = Fp.oj ((l.map wipe).map (·.Rule)) := fun l => by
  unfold iF Fp.oj
  rw [← uV, List.map_map, List.map_map]; rfl
 rw [h, h, e]
theorem vC {l l' : List Bd} (e : l.map wipe = l'.map wipe) {b : Bd} (hb : b ∈ l) : ∃ b' ∈ l', wipe b = wipe b' := by
 have : wipe b ∈ l'.map wipe := e ▸ List.mem_map_of_mem hb
 obtain ⟨b', h1, h2⟩ := List.mem_map.1 this
 exact ⟨b', h1, h2.symm⟩
theorem zU [Gh] (l : Sl Bd) {h : aA} (ok : bF 25 aE.vals aE.ok h l) (hl : l.xs.length ≤ 40) (sd : ∀ b ∈ l.xs, Snd b) {Q : Value → aA → Prop}
  (hbad : ∀ h', Fr (fun _ => False) h h' → ¬ (l.xs.map nj).Nodup → Q (.tuple #[.pointer none, .int .i64 7]) h')
  (hk : ∀ s h' bs gs, Fr (fun _ => False) h h' → vt h'.size h' s bs gs → bs.map wipe = l.xs.map wipe → gs.map Fp.fD = iF l.xs → (l.xs.map nj).Nodup → Q (.tuple #[.pointer (some s), .int .i64 0]) h') :
  aD Tryz.prog jU #[.slice l.p l.xs.length l.cap] h Q := by
 apply vD
 unfold qI
 refine ifD (fun e => by omega) fun _ => ?_
 refine BF (yA .i64) fun m h1 f1 em M1 => ?_
 refine aZ (vs := [.slice none 0 0, .map (some m)]) fun A h2 f2 e2 oA => ?_
 refine BF (yA .i64) fun seen h3 f3 es M3 => ?_
 have z1 := f1.size; have z2 := f2.size; have z3 := f3.size
 have lm := M1.lt; have lA := oA.lt
 have f03 := (f1.trans f2).trans f3
 refine Fj l ok hl (fun b hb => (sd b hb).len) (A := A) (m := m) (seen := seen) ⟨by omega, f03, oA.fr0 f3, Row.nil, Row.nil, (M1.fr f2 id).fr f3 id, M3, rfl, fun b hb => (List.not_mem_nil hb).elim, fun x hx => (dR hx).elim, fun x hx => (dR hx).elim, by omega, List.nodup_nil⟩ hbad fun h4 p1 c1 p2 c2 bs C => ?_
 have z4 := C.fr.size
 have blen : bs.length = l.xs.length := C.len
 have okb : ∀ b ∈ bs, aE.ok h4 b := fun b hb => (C.st b hb).now
 have sdb : ∀ b ∈ bs, Snd b := fun b hb => by
  obtain ⟨b', hb', e⟩ := vC (l' := l.xs) (by rw [C.wp, List.take_length]) hb
  exact (sd b' hb').wipe e
 have wp : bs.map wipe = l.xs.map wipe := by rw [C.wp, List.take_length]
 unfold jP
 have okr : bF 21 aK.vals aK.ok h4 ⟨p2, c2, bs.map (·.Rule)⟩ := C.r2.sl Cc (by omega) (by rw [List.length_map]; omega) fun r hr => by
  obtain ⟨b, hb, rfl⟩ := List.mem_map.1 hr
  exact (okb b hb).k0
 have call : ∀ (R : Sl aK), R = ⟨p2, c2, bs.map (·.Rule)⟩ → (∀ (g : Sl bD) h', Fr (fun _ => False) h4 h' → Fp.Dy h' g → g.xs.map Fp.fD = Fp.oj R.xs → aJ (fun (s : Int) h Kn => fR A g.p g.xs.length g.cap ((g.xs.length : Nat) : Int) Q s h Kn) 0 h') →
   aD Tryz.prog iG #[.slice R.p R.xs.length R.cap] h4 fun v h16 => ∃ t55a : Option Addr, ∃ t55n : Nat, ∃ t55c : Nat, v = .slice t55a t55n t55c ∧ aJ (fun (s : Int) h Kn => fR A t55a t55n t55c ((t55n : Nat) : Int) Q s h Kn) 0 h16 := fun R hR hK => by
  refine Fp.GS R (hR ▸ okr) (by rw [hR]; show (bs.map _).length ≤ 40; rw [List.length_map]; omega) (fun r hr => ?_) fun g h5 f5 okg eg => ⟨_, _, _, rfl, hK g h5 f5 okg eg⟩
  rw [hR] at hr
  obtain ⟨b, hb, rfl⟩ := List.mem_map.1 hr
  exact (sdb b hb).short
 refine (fun call => ?_) (call _ rfl fun g h5 f5 okg eg => ?_)
 ·rw [show (⟨p2, c2, bs.map (·.Rule)⟩ : Sl aK).xs.length = l.xs.length by show (bs.map _).length = _; rw [List.length_map]; exact blen] at call
  exact call
 have z5 := f5.size
 have sm : Fp.rD bs.length (iF bs) := by have := Gc (bs.map (·.Rule)); rwa [List.length_map] at this
 have pg : ER (iF bs) := Kc _ fun r hr c hc => by
  obtain ⟨b, hb, rfl⟩ := List.mem_map.1 hr
  have := (sdb b hb).ck.con c hc; omega
 have eg' : g.xs.map Fp.fD = iF bs := eg
 have glen : g.xs.length ≤ 40 := by
  have h1 := congrArg List.length eg'
  rw [List.length_map] at h1
  have := sm.len; omega
 refine HE g okg (C.mm.fr f5 id) (vA := .slice p1 l.xs.length c1) (C.own.fr0 f5) C.nA.2.2.2.1 glen (fun gr hgr => ?_) fun h6 mm o I => ?_
 ·have hm : Fp.fD gr ∈ iF bs := by rw [← eg']; exact List.mem_map_of_mem hgr
  have h1 := (sm.g _ hm).1
  have h2 := pg _ hm
  have e1 : (Fp.fD gr).pats.length = gr.Patterns.xs.length := List.length_map ..
  refine ⟨by omega, Ae _ fun p hp => ?_⟩
  obtain ⟨q, hq, rfl⟩ := List.mem_map.1 hp
  exact h2 (q.Text, q.Nocase) (List.mem_map_of_mem hq)
 ·have zI := I.size
  have l1 : ∀ x, InA p1 x → x < h4.size := fun x hx => C.r1.lt hx
  have lA4 := C.own.lt
  have hF : Fr (fun x => x = m ∨ h5.size ≤ x) h5 h6 := I.fr
  have big : ∀ h7, Fr (fun x => ¬ x < h6.size) h6 h7 → Fr (fun _ => False) h6 h7 := fun h7 f => f.mono' fun x hx hh => hh hx
  have nA := C.nA
  have sub : Fr (fun _ => False) h h6 := (C.fr.trans f5).tr hF fun x hx hh => by omega
  refine hk A h6 bs g.xs sub ⟨Nat.le_refl _, p1, c1, m, mm, fun h7 f7 => ?_, fun kind => ?_⟩ wp (eg'.trans (sA wp)) (by have := C.nd; rwa [List.take_length] at this)
  ·have f7' := big h7 f7
   have oA6 := ((C.own.fr0 f5).fr hF fun hh => by omega).fr0 f7'
   refine ⟨?_, (((C.r1.fr0 f5).fr hF fun x hx hh => by have := l1 x hx; have := C.n1 x hx; omega).fr0 f7'), fun b hb => ?_, I.map.fr f7' id⟩
   ·have := oA6.cells
    rwa [← blen] at this
   ·refine ((((C.st b hb).fr (B' := fun x => x ≠ m) f5 (fun _ _ _ => id) fun x hx hh => hh.2.2.1).fr (B' := fun x => x ≠ m) hF (fun x hx h1 hh => ?_) fun x hx hh => hh).fr (B' := fun x => x ≠ m) f7' (fun _ _ _ => id) fun x hx hh => hh).now
    rcases hh with hh | hh
    ·exact h1 hh
    ·omega
  ·obtain ⟨p, c, av, e, R, ho, G⟩ := I.kd kind
   exact ⟨p, c, av, e, fun h7 f7 => R.fr0 (big h7 f7), G.fr (Fr.refl (fun _ => False) _) (fun _ _ _ => id) fun x hx _ => hx⟩
end Go.Proofs.YtjmfpeiidlpngaaGreatDoor
namespace Go.Proofs.YtjmfpeiidlpngaaGreatDoor.Au
set_option linter.unusedSimpArgs false
set_option linter.unusedVariables false
set_option maxRecDepth 20000
open Go
open Go.IntKind (wrap)
structure wX (h : aA) (c a : Addr) (now at' : Nat) (tl : Nm) (p : Option Addr) (cap : Nat) : Prop where
 own : Own h c [.pointer (some a), .int .u16 now, .int .i64 at', .slice p tl.length cap] fN
 row : Row 1 bV h p cap tl
 nc : ¬ InA p c.block
theorem wX.fr {S : Nat → Prop} {h h' : aA} {c a : Addr} {now at' : Nat} {tl : Nm} {p : Option Addr} {cap : Nat} (C : wX h c a now at' tl p cap) (f : Fr S h h') (h1 : ¬ S c.block) (h2 : ∀ x, InA p x → ¬ S x) : wX h' c a now at' tl p cap :=
 ⟨C.own.fr f h1, C.row.fr f h2, C.nc⟩
theorem wX.fr0 {h h' : aA} {c a : Addr} {now at' : Nat} {tl : Nm} {p : Option Addr} {cap : Nat} (f : Fr (fun _ => False) h h') (C : wX h c a now at' tl p cap) : wX h' c a now at' tl p cap := C.fr f id fun _ _ => id
def spB (L : List Pt) (tl : Nm) (j : Nat) : Bool := (L.getD j ⟨[], false⟩).nc || decide (tl.drop (tl.length - (L.getD j ⟨[], false⟩).t.length) = (L.getD j ⟨[], false⟩).t)
theorem Ah (L : List Pt) (j : Nat) (hj : j < L.length) : L.getD j ⟨[], false⟩ = L[j] := by rw [List.getD_eq_getElem?_getD, List.getElem?_eq_getElem hj]; rfl
theorem BW {h : aA} {p : Option Addr} {cap : Nat} {l : Nm} (R : Row 1 bV h p cap l) (k : Nat) {n : Int} (hn : n = k) (hk : k ≤ l.length) {K : Option Addr → Nat → Nat → Prop}
  (hK : ∀ p' c', (∀ ad, p' = some ad → aW h ad (dX (l.drop k))) → (p' = none → l.drop k = []) → K p' (l.drop k).length c') : fX 1 p l.length cap (some n) none none K := by
 subst hn
 unfold fX
 refine ⟨by omega, by omega, ?_⟩
 rw [Int.toNat_natCast, ← List.length_drop]
 have hle := R.le
 have hb := R.own
 rw [ut] at hb
 by_cases hc : cap = k
 ·have e : l.drop k = [] := List.drop_eq_nil_of_le (by omega)
  rw [if_pos hc]
  exact hK _ _ (fun ad _ => by rw [e]; intro j hj; exact absurd hj (Nat.not_lt_zero _)) fun _ => e
 ·rw [if_neg hc]
  cases p with
  | none => exact hK _ _ (fun ad he => by cases he) fun _ => by have := hb.1; simp [dX] at this; rw [this]; simp
  | some ad =>
   refine hK _ _ (fun ad' he => ?_) fun he => by cases he
   simp only [Option.map_some, Option.some.injEq, Nat.mul_one] at he
   subst he
   have := hb.cells.sub k
   unfold dX at this ⊢
   rw [← List.map_drop] at this; exact this
theorem HY [Gh] {h : aA} {c a : Addr} {sg : List St} {L : List Pt} {now at' : Nat} {tl : Nm} {p : Option Addr} {cap : Nat} (A : Ez h a sg L) (C : wX h c a now at' tl p cap) (j : Nat) (hj : j < L.length) (hlen : L[j].t.length ≤ tl.length) (htl : tl.length ≤ 64) {Q : Value → aA → Prop}
  (hk : ∀ h', Fr (fun _ => False) h h' → Q (.bool (spB L tl j)) h') : aD Tryz.prog lB #[.pointer (some c), .int .i64 j] h Q := by
 apply re
 unfold lH
 obtain ⟨q, cq, pq, pc, ca, _, S⟩ := A.blk
 have cc := C.own.cells
 unfold spB at hk
 rw [Ah L j hj] at hk
 refine aS (aV (cc.at0 rfl) (aS (aC (ca.at rfl) (S.get j rfl hj fun ad ci => ?_))))
 rw [Int.toNat_natCast]
 refine bH (ci.at0 rfl) (aN (ci.at (j := 1) rfl) ?_)
 refine aZ (vs := [.string (bs []), .bool false]) fun t5 h1 f1 e1 o1 => ?_
 refine jr o1 (ws := [.string (bs L[j].t), .bool L[j].nc]) (by rfl) (by rfl) fun h2 f2 s2 o2 => ?_
 have F2 : Fr (fun _ => False) h h2 := f1.tr f2 fun b hb hi => by omega
 have c2 := o2.cells
 refine aN (c2.at (j := 1) rfl) (ifB (fun e => ?_) fun e => ?_)
 ·rw [e] at hk; exact hk h2 F2
 rw [e, Bool.false_or] at hk
 have cc2 := cc.fr0 F2
 refine aS (aC (cc2.at rfl) (aS (aC (cc2.at rfl) (bH (c2.at0 rfl) ?_))))
 rw [bR, wr (by omega) (by omega)]
 refine BW (C.row.fr0 F2) (tl.length - L[j].t.length) (by omega) (by omega) fun p' c' h3 h4 => ?_
 refine bH (c2.at0 rfl) ?_
 refine r7 Tryz.underlying98 Tryz.underlying9 Tryz.underlying5 rfl h3 h4 ⟨_, rfl, bH (c2.at0 rfl) rfl, ?_⟩
 refine Qeq (hk h2 F2) ?_
 congr 1
 show _ = ((bs (tl.drop (tl.length - L[j].t.length))).toList == (bs L[j].t).toList)
 rw [lj, lj]
 rw [Bool.eq_iff_iff, decide_eq_true_iff, beq_iff_eq]
theorem Kv [Gh] {h : aA} {p : Option Addr} {cap : Nat} {L : List Nat} (R : Row 1 inV h p cap L) {e : Nat} {b : Addr} {T : TypeId} (ob : Own h b (inV e) T) (hl : L.length ≤ 2 ^ 29) {K : Value → aA → Prop}
  (hk : ∀ p' cap' h', Row 1 inV h' p' cap' (L ++ [e]) → Fr (InA p) h h' → (∀ b, InA p' b → InA p b ∨ h.size ≤ b) → K (.slice p' (L ++ [e]).length cap') h') :
  dN Tryz.prog .append #[bK, bK] bK #[false, false] #[.slice p L.length cap, .slice (some b) 1 1] h K :=
 R.app ua Tryz.underlying46 (by intro k e; cases e) (by kernel_rfl) (by decide +kernel) ux (fun _ => rfl) ob 1 hl hk
theorem JU [Gh] {h : aA} {q : Option Addr} {cq : Nat} {l : List Nat} (R : Row 1 inV h q cq l) (hl : l.length ≤ 2 ^ 20) (F : Value) (P : Nat → Bool)
  (hF : ∀ h', Fr (fun _ => False) h h' → ∀ j ∈ l, ∀ Q : Value → aA → Prop, (∀ h'', Fr (fun _ => False) h' h'' → Q (.bool (P j)) h'') → lQ Tryz.prog F #[.int .i64 j] h' Q) {Q : Value → aA → Prop}
  (hk : ∀ r rc h', Fr (fun _ => False) h h' → Row 1 inV h' r rc (l.filter P) → (∀ x, InA r x → h.size ≤ x) → Q (.slice r (l.filter P).length rc) h') :
  aD Tryz.prog m9 #[.slice q l.length cq, F] h Q := by
 apply wG
 unfold rj
 refine aJ.go (fun n st h' => ∃ (i : Nat), st.2.2.2 = (i : Int) ∧ st.2.1 = ((l.take i).filter P).length ∧ i ≤ l.length ∧ n = l.length - i ∧ Fr (fun _ => False) h h' ∧ Row 1 inV h' st.1 st.2.2.1 ((l.take i).filter P) ∧ ∀ x, InA st.1 x → h.size ≤ x) l.length
  ⟨0, rfl, rfl, by omega, rfl, Fr.refl _ _, Row.nil, fun x hx => (dR hx).elim⟩ ?_
 rintro n ⟨ra, rn, rc, t10⟩ h1 ⟨i, e1, e2, hi, rfl, f1, R1, hr⟩ Kn hK
 dsimp only at e1 e2 R1 hr
 subst e1 e2
 dsimp only
 unfold mE
 have z1 := f1.size
 refine ifD (fun e => ?_) fun e => ?_
 ·have hil : i < l.length := by omega
  have htk : (l.take (i + 1)).filter P = (l.take i).filter P ++ (if P l[i] = true then [l[i]] else []) := by
   rw [show l.take (i + 1) = l.take i ++ [l[i]] by rw [List.take_append_getElem], List.filter_append, List.filter_cons, List.filter_nil]
  have hfl : ((l.take i).filter P).length ≤ i := Nat.le_trans (List.length_filter_le ..) (by rw [List.length_take]; omega)
  refine (R.fr0 f1).idx ux (by decide) i rfl hil fun ad ci => ?_
  rw [Int.toNat_natCast]
  refine aB (ci.at0 rfl) (hF h1 f1 l[i] (List.getElem_mem hil) _ fun h2 f2 => ⟨_, rfl, ?_⟩)
  have f12 := f1.trans f2
  have z2 := f2.size
  rw [wr (by omega) (by omega)]
  refine ifB (fun e3 => ?_) fun e3 => ?_
  ·rw [if_pos e3] at htk
   refine aZ (vs := inV l[i]) fun t19 h3 f3 e3 o3 => ?_
   have z3 := f3.size
   refine Kv ((R1.fr0 f2).fr0 f3) o3 (by omega) fun p' c' h4 R4 f4 hn4 => ⟨_, _, _, rfl, ?_⟩
   rw [← htk] at R4 ⊢
   refine hK (l.length - (i + 1)) _ _ (by omega) ⟨i + 1, rfl, rfl, hil, rfl, (f12.trans f3).tr f4 fun x hx hh => by have := hr x hh; omega, R4, fun x hx => ?_⟩
   rcases hn4 x hx with hh | hh
   ·exact hr x hh
   ·omega
  ·rw [if_neg (by rw [e3]; decide), List.append_nil] at htk
   exact hK (l.length - (i + 1)) _ _ (by omega) ⟨i + 1, rfl, by dsimp only; rw [htk], hil, rfl, f12, by rw [htk]; exact R1.fr0 f2, hr⟩
 ·have : i = l.length := by omega
  subst this
  rw [List.take_length] at R1 ⊢
  exact hk ra rc h1 f1 R1 hr
end Go.Proofs.YtjmfpeiidlpngaaGreatDoor.Au
namespace Go.Proofs.YtjmfpeiidlpngaaGreatDoor.Au
set_option linter.unusedSimpArgs false
set_option linter.unusedVariables false
set_option maxRecDepth 20000
open Go
def na (L : List Pt) (s : Nm) : List Nat := (List.range L.length).filter fun j => tk (L.getD j ⟨[], false⟩) s s.length
theorem CO (L : List Pt) (s : Nm) : (na L s).Pairwise (· < ·) := List.Pairwise.filter _ List.pairwise_lt_range
theorem rO {L : List Pt} {w : Nm} {j : Nat} : j ∈ iC L L.length w ↔ j < L.length ∧ cX (L.getD j ⟨[], false⟩).t = w := by
 unfold iC
 rw [List.mem_filter, List.mem_range, decide_eq_true_iff]
theorem B6 (s : Nm) (k : Nat) (hk : k ≤ s.length) : yH s k s.length = s.drop (s.length - k) := by
 unfold yH
 rw [List.take_of_length_le]
 rw [List.length_drop]; omega
theorem Gi {v s : Nm} : v <:+ s ↔ v.length ≤ s.length ∧ s.drop (s.length - v.length) = v := by
 constructor
 ·intro h
  exact ⟨h.length_le, (List.suffix_iff_eq_drop.1 h).symm⟩
 ·rintro ⟨_, h⟩
  rw [← h]; exact List.drop_suffix _ _
section
variable {sg : List St} {ws : List Nm} {L : List Pt}
theorem x7.pre' {E : Nm → List Nat} (D : x7 sg ws E) : Pre ws := ⟨List.mem_of_getElem? D.z, D.pre⟩
theorem BR (he : qq L = 0) : iC L L.length [] = [] := by
 rw [List.eq_nil_iff_forall_not_mem]
 intro j hj
 obtain ⟨h1, h2⟩ := rO.1 hj
 rw [Ah L j h1] at h2
 refine (ur he _ (List.getElem_mem h1)).1 ?_
 unfold cX at h2
 exact List.map_eq_nil_iff.1 h2
theorem CT (w : Nm) : (iC L L.length w).Nodup := List.Pairwise.filter _ List.nodup_range
theorem GB (v w : Nm) (j : Nat) (h1 : j ∈ iC L L.length v) (h2 : j ∈ iC L L.length w) : v = w := (rO.1 h1).2.symm.trans (rO.1 h2).2
theorem xd (D : x7 sg ws (iC L L.length)) (he : qq L = 0) (s : Nm) : (mh ws (iC L L.length) (ls ws s)).Nodup :=
 xf D.pre' _ (BR he) CT GB _ _ (Nat.le_refl _) (wU D.pre' s)
theorem zJ (D : x7 sg ws (iC L L.length)) (hw : ∀ w, w ∈ ws ↔ u3 L L.length w) (he : qq L = 0) (s : Nm) (j : Nat) :
  j ∈ mh ws (iC L L.length) (ls ws s) ↔ j < L.length ∧ cX (L.getD j ⟨[], false⟩).t <:+ s := by
 rw [uB D.pre' _ (BR he) j _ _ (Nat.le_refl _) (wU D.pre' s)]
 constructor
 ·rintro ⟨v, h1, h2, h3⟩
  obtain ⟨h4, h5⟩ := rO.1 h3
  refine ⟨h4, ?_⟩
  rw [h5]; exact h1.trans (uh s)
 ·rintro ⟨h1, h2⟩
  have hm : cX (L.getD j ⟨[], false⟩).t ∈ ws := (hw _).2 (.inr ⟨j, h1, h1, by rw [Ah L j h1]; exact List.prefix_refl _⟩)
  exact ⟨_, wK s h2 hm, hm, rO.2 ⟨h1, rfl⟩⟩
theorem GE (s : Nm) (k : Nat) (h1 : k ≤ 64) (h2 : k ≤ s.length) : (s.drop (s.length - 64)).drop ((s.drop (s.length - 64)).length - k) = s.drop (s.length - k) := by
 rw [List.drop_drop, List.length_drop]
 congr 1; omega
theorem Eg (p : Pt) (s : Nm) (h1 : p.t ≠ []) (h2 : p.t.length ≤ 64) :
  tk p s s.length = true ↔ cX p.t <:+ cX s ∧ (p.nc || decide ((s.drop (s.length - 64)).drop ((s.drop (s.length - 64)).length - p.t.length) = p.t)) = true := by
 have hs : cX p.t <:+ cX s ↔ p.t.length ≤ s.length ∧ cX (s.drop (s.length - p.t.length)) = cX p.t := by
  rw [Gi, j0, j0]
  unfold cX
  rw [List.map_drop]
 unfold tk
 rw [Bool.and_eq_true, Bool.and_eq_true, decide_eq_true_iff, decide_eq_true_iff, hs]
 constructor
 ·rintro ⟨_, h3, h4⟩
  rw [B6 s _ h3] at h4
  rw [GE s _ h2 h3]
  by_cases hn : p.nc = true
  ·rw [if_pos hn, decide_eq_true_iff] at h4
   exact ⟨⟨h3, h4⟩, by rw [hn]; rfl⟩
  ·rw [if_neg hn, decide_eq_true_iff] at h4
   exact ⟨⟨h3, by rw [h4]⟩, by rw [h4]; simp⟩
 ·rintro ⟨⟨h3, h4⟩, h5⟩
  rw [GE s _ h2 h3] at h5
  refine ⟨h1, h3, ?_⟩
  rw [B6 s _ h3]
  by_cases hn : p.nc = true
  ·rw [if_pos hn, decide_eq_true_iff]; exact h4
  ·rw [if_neg hn, decide_eq_true_iff]
   rw [Bool.or_eq_true] at h5
   rcases h5 with h5 | h5
   ·exact absurd h5 hn
   ·exact of_decide_eq_true h5
theorem Di (D : x7 sg ws (iC L L.length)) (hw : ∀ w, w ∈ ws ↔ u3 L L.length w) (he : qq L = 0) (s : Nm) :
  ((mh ws (iC L L.length) (ls ws (cX s))).filter (spB L (s.drop (s.length - 64)))).Perm (na L s) := by
 refine (List.perm_ext_iff_of_nodup ((xd D he _).filter _) ((List.nodup_range).filter _)).2 fun j => ?_
 rw [List.mem_filter, zJ D hw he]
 rw [List.mem_filter, List.mem_range]
 constructor
 ·rintro ⟨⟨h1, h2⟩, h3⟩
  have hp := ur he _ (List.getElem_mem h1)
  rw [← Ah L j h1] at hp
  exact ⟨h1, (Eg _ s hp.1 hp.2).2 ⟨h2, h3⟩⟩
 ·rintro ⟨h1, h2⟩
  have hp := ur he _ (List.getElem_mem h1)
  rw [← Ah L j h1] at hp
  have := (Eg _ s hp.1 hp.2).1 h2
  exact ⟨⟨h1, this.1⟩, this.2⟩
theorem E6 (D : x7 sg ws (iC L L.length)) (hw : ∀ w, w ∈ ws ↔ u3 L L.length w) (he : qq L = 0) (s : Nm) : (mh ws (iC L L.length) (ls ws s)).length ≤ L.length :=
 yK (xd D he s) fun j hj => ((zJ D hw he s j).1 hj).1
end
end Go.Proofs.YtjmfpeiidlpngaaGreatDoor.Au
namespace Go.Proofs.YtjmfpeiidlpngaaGreatDoor
set_option linter.unusedSimpArgs false
set_option linter.unusedVariables false
set_option maxRecDepth 20000
open Go
section
variable {α : Type} [Inhabited α] {enc : α → Value} {P : Program}
theorem Cb [Gh] {f : FuncId} {ad : Addr} {cap : Nat} {xs ys : List α} {h : aA} (hc : ∀ args w, (callFunc f args).run P w = .ok (.enter f args) w) (hl : ys.length = xs.length)
  (R : Row 1 (fun x => [enc x]) h (some ad) cap xs)
  (hs : ∀ w : World, w.heap = h → Go.Sort.Holds enc w ad.block 0 xs.toArray → ad.block < w.heap.size → Calls P f #[.slice (some ⟨ad.block, 0, none⟩) xs.length cap] w fun e w' =>
   e = .returned (.tuple #[]) ∧ ∃ n os, w' = Go.Sort.grow (Go.Sort.putRow enc (Go.Sort.ahead w n) ad.block 0 ys.toArray) os)
  {K : Value → aA → Prop} (hk : ∀ h', Fr (InA (some ad)) h h' → Row 1 (fun x => [enc x]) h' (some ad) cap ys → K (.tuple #[]) h') : aD P f #[.slice (some ad) xs.length cap] h K := by
 obtain ⟨⟨h1, h2, ds, t, fr, hfr, hg, hcap, hlen, hcs⟩, hle⟩ := R
 have hfl : ∀ zs : List α, zs.flatMap (fun x => [enc x]) = zs.map enc := fun zs => by induction zs <;> simp_all
 rw [hfl] at hlen hcs
 obtain ⟨b, o, s⟩ := ad
 simp only at h1 h2 hg hs
 subst h1 h2
 rw [List.length_map] at hlen
 have hblk : b < h.size := pD hg
 intro w hw hsm
 have hrun := hc #[.slice (some ⟨b, 0, none⟩) xs.length cap] w
 rw [hrun]
 simp only
 refine (hs w hw ?_ (by rw [hw]; exact hblk)).mono ?_
 ·intro j hj
  have hj' : j < xs.length := by simpa using hj
  rw [Nat.zero_add]
  constructor
  ·show hcell w.heap ⟨b, j, none⟩ = _
   rw [hw, ka hg, hcs j (by simpa using hj')]
   simp [hj']
  ·show pB w.heap ⟨b, j, none⟩ = _
   rw [hw]
   exact pX hg hfr (by omega)
 ·rintro e w' ⟨rfl, n, os, rfl⟩
  refine ⟨_, rfl, ?_, ⟨hsm.1, hsm.2.1, hsm.2.2⟩⟩
  have hheap : (Go.Sort.grow (Go.Sort.putRow enc (Go.Sort.ahead w n) b 0 ys.toArray) os).heap = (h.modify b (Go.Sort.onCells (Go.Sort.putCells enc 0 ys.toArray))) ++ os := by
   rw [← hw]; rfl
  rw [hheap]
  have hat : ((h.modify b (Go.Sort.onCells (Go.Sort.putCells enc 0 ys.toArray))) ++ os)[b]? = some (.cells (Go.Sort.putCells enc 0 ys.toArray ds) t fr) := by
   rw [Array.getElem?_append_left (by simpa using hblk), Array.getElem?_modify, if_pos rfl, hg]; rfl
  have hsz : (Go.Sort.putCells enc 0 ys.toArray ds).size = ds.size := by simp [Go.Sort.putCells]
  refine hk _ ⟨by simp, fun c hcl hn => ?_⟩ ⟨⟨rfl, rfl, _, t, fr, by rw [hsz]; exact hfr, hat, by rw [hsz]; exact hcap, ?_, ?_⟩, by rw [hl]; exact hle⟩
  ·rw [Array.getElem?_append_left (by simpa using hcl), Array.getElem?_modify, if_neg (fun e => hn ⟨_, rfl, e⟩)]
  ·rw [hfl, hsz, List.length_map, hl]; exact hlen
  ·rw [hfl]
   intro i hi
   rw [List.length_map] at hi
   unfold Go.Sort.putCells
   rw [Array.getElem?_mapIdx, Array.getElem?_eq_getElem (by omega)]
   simp [hi]
theorem BT [Gh] {f : FuncId} {p : Option Addr} {cap : Nat} {h : aA} (hc : ∀ args w, (callFunc f args).run P w = .ok (.enter f args) w)
  (hs : ∀ w : World, Calls P f #[.slice p 0 cap] w fun e w' => e = .returned (.tuple #[]) ∧ w' = w)
  {K : Value → aA → Prop} (hk : K (.tuple #[]) h) : aD P f #[.slice p 0 cap] h K := by
 intro w hw hsm
 rw [hc]
 simp only
 refine (hs w).mono ?_
 rintro e w' ⟨rfl, rfl⟩
 exact ⟨_, rfl, by rw [hw]; exact hk, hsm⟩
end
end Go.Proofs.YtjmfpeiidlpngaaGreatDoor
namespace Go.Proofs
open Go.Shelf
shelf_lay Lays.n189 Nm 189 at Tryz as Tryz.lays189
end Go.Proofs
namespace Go.Proofs.YtjmfpeiidlpngaaGreatDoor.Au
set_option linter.unusedSimpArgs false
set_option linter.unusedVariables false
set_option maxRecDepth 20000
open Go
open Go.IntKind (wrap)
def nf (n : Int) : List Value := [.int .i64 n]
def nv (xs : List Int) : List Int := xs.mergeSort fun x y => decide (x ≤ y)
theorem DF [Gh] {p : Option Addr} {cap : Nat} {xs : List Int} {h : aA} (R : Row 1 nf h p cap xs) (hl : xs.length ≤ 2 ^ 40) {K : Value → aA → Prop}
  (hk : ∀ h', Fr (InA p) h h' → Row 1 nf h' p cap (nv xs) → K (.tuple #[]) h') : aD Tryz.prog ii #[.slice p xs.length cap] h K := by
 cases p with
 | none =>
  have : xs = [] := by
   cases xs with
   | nil => rfl
   | cons x xs => have := R.own.1; simp [nf] at this
  subst this
  refine BT (fun _ _ => rfl) (fun w => Any.slices_Sort_int_none Tryz.lays189 none cap w) ?_
  exact hk h (Fr.refl _ _) (by simpa [nv] using R)
 | some ad =>
  exact Cb (enc := Value.int .i64) (ys := nv xs) (fun _ _ => rfl) (List.length_mergeSort xs) R (fun w hw hH hb => Any.slices_Sort_int Tryz.lays189 ad.block 0 cap xs w hH hb (by omega)) hk
theorem Aa : ∀ {xs ys : List Int}, xs.Perm ys → xs.Pairwise (· ≤ ·) → ys.Pairwise (· < ·) → xs = ys
 | [], ys, p, _, _ => (List.Perm.nil_eq p)
 | x :: xs, [], p, _, _ => by have := p.length_eq; simp at this
 | x :: xs, y :: ys, p, h1, h2 => by
  rw [List.pairwise_cons] at h1 h2
  have e : x = y := by
   have hx : x ∈ y :: ys := p.mem_iff.1 (by simp)
   have hy : y ∈ x :: xs := p.mem_iff.2 (by simp)
   rcases List.mem_cons.1 hx with e | hx
   ·exact e
   ·rcases List.mem_cons.1 hy with e | hy
    ·exact e.symm
    ·have := h1.1 y hy; have := h2.1 x hx; omega
  subst e
  rw [Aa (List.Perm.cons_inv p) h1.2 h2.2]
theorem Fs {xs ys : List Int} (p : xs.Perm ys) (h : ys.Pairwise (· < ·)) : nv xs = ys := by
 refine Aa ((List.mergeSort_perm xs _).trans p) ?_ h
 have := List.pairwise_mergeSort (le := fun (x y : Int) => decide (x ≤ y)) (fun a b c h1 h2 => by simp only [decide_eq_true_eq] at *; omega) (fun a b => by simp only [Bool.or_eq_true, decide_eq_true_eq]; omega) xs
 exact this.imp fun h => of_decide_eq_true h
theorem BV (l : List Nat) : (l.map Int.ofNat).flatMap nf = l.flatMap inV := by
 rw [List.flatMap_map]; rfl
theorem HW [Gh] {p : Option Addr} {cap : Nat} {xs ys : List Nat} {h : aA} (R : Row 1 inV h p cap xs) (hl : xs.length ≤ 2 ^ 20) (hp : xs.Perm ys) (hs : ys.Pairwise (· < ·)) {K : Value → aA → Prop}
  (hk : ∀ h', Fr (InA p) h h' → Row 1 inV h' p cap ys → K (.tuple #[]) h') : aD Tryz.prog ii #[.slice p xs.length cap] h K := by
 have R' : Row 1 nf h p cap (xs.map Int.ofNat) := ⟨by rw [BV]; exact R.own, by rw [List.length_map]; exact R.le⟩
 have e : nv (xs.map Int.ofNat) = ys.map Int.ofNat := Fs (hp.map _) (List.pairwise_map.2 (hs.imp fun h => Int.ofNat_lt.2 h))
 have := DF R' (by rw [List.length_map]; omega) (K := K) fun h' f R2 => by
  rw [e] at R2
  exact hk h' f ⟨by rw [← BV]; exact R2.own, by have := R2.le; rw [List.length_map] at this; exact this⟩
 rw [List.length_map] at this; exact this
theorem _root_.Go.Proofs.YtjmfpeiidlpngaaGreatDoor.Row.none0 {α : Type} {sz : Nat} {vals : α → List Value} {h : aA} {p : Option Addr} {cap : Nat} {L : List α} (R : Row sz vals h p cap L) : Row sz vals h p cap ([] : List α) := by
 refine ⟨?_, Nat.zero_le _⟩
 have o := R.own
 cases p with
 | none => exact ⟨rfl, o.2⟩
 | some ad =>
  obtain ⟨h1, h2, ds, t, fr, hfr, hg, hc, hl, hcs⟩ := o
  exact ⟨h1, h2, ds, t, fr, hfr, hg, hc, Nat.zero_le _, fun i hi => absurd hi (Nat.not_lt_zero _)⟩
section
variable {N : Nat} {h0 h : aA} {c a : Addr} {sg : List St} {ws : List Nm} {L : List Pt}
theorem E3 (s : Nm) (b : UInt8) : (s ++ [b]).drop ((s ++ [b]).length - 64) = (if (s.drop (s.length - 64)).length = 64 then (s.drop (s.length - 64)).drop 1 else s.drop (s.length - 64)) ++ [b] := by
 rw [List.length_append, List.length_singleton, List.length_drop]
 split
 ·rename_i hh
  rw [List.drop_drop, List.drop_append_of_le_length (by omega)]
  congr 2; omega
 ·rename_i hh
  rw [List.drop_append_of_le_length (by omega)]
  congr 2; omega
theorem DY [Gh] (A : wk N h a sg ws L) {now : Nat} {tl : Nm} {p : Option Addr} {cap : Nat} (text : Nm) (C : wX h c a now (text.length + 1) tl p cap) (hN : N ≤ c.block) (hp : ∀ x, InA p x → N ≤ x) (b : UInt8)
  (htl : tl ++ [b] = (text ++ [b]).drop ((text ++ [b]).length - 64)) (hnow : ws[now]? = some (ls ws (cX text))) (hlen : text.length ≤ 2 ^ 30) {Q : Value → aA → Prop}
  (hk : ∀ h' now' p' cap' r rc, Fr (fun x => x = c.block ∨ InA p x) h h' → wX h' c a now' (text.length + 1) ((text ++ [b]).drop ((text ++ [b]).length - 64)) p' cap' → ws[now']? = some (ls ws (cX (text ++ [b]))) → (∀ x, InA p' x → InA p x ∨ h.size ≤ x) → Row 1 inV h' r rc (na L (text ++ [b])) → (∀ x, InA r x → h.size ≤ x) → (∀ x, InA r x → ¬ InA p' x) → Q (.slice r (na L (text ++ [b])).length rc) h') :
  dW (some c) (bN b) Q h := by
 unfold dW
 have cc := C.own.cells
 have lt := C.own.lt
 have htl64 : (tl ++ [b]).length ≤ 64 := by rw [htl, List.length_drop]; omega
 have htll : (tl ++ [b]).length = tl.length + 1 := by simp
 refine aS (aC (cc.at (j := 3) rfl) ?_)
 refine aZ (vs := bV b) fun t40 h4 f4 e4 o4 => ?_
 have z4 := f4.size
 refine Kl (C.row.fr0 f4) o4 (by omega) fun p' cap' h5 R5 f5 hn5 => ⟨_, _, _, rfl, ?_⟩
 have z5 := f5.size
 have o5 := (C.own.fr0 f4).fr f5 C.nc
 have nc5 : ¬ InA p' c.block := fun hh => by
  rcases hn5 _ hh with h | h
  ·exact C.nc h
  ·omega
 refine aS (cK o5 3 (by simp) rfl fun h6 f6 s6 o6 => ?_)
 have o6 : Own h6 c [.pointer (some a), .int .u16 now, .int .i64 (text.length + 1 : Nat), .slice p' (tl ++ [b]).length cap'] fN := o6
 have R6 := R5.fr f6 fun x hx hb => by subst hb; exact nc5 hx
 have F6 : Fr (fun x => x = c.block ∨ InA p x) h h6 := ((f4.mono fun _ h => h.elim).tr f5 fun x hx hh => .inr hh).tr f6 fun x hx hh => .inl hh
 have hge : ∀ x, x < h.size → (x = c.block ∨ InA p x) → N ≤ x := fun x hx hh => by
  rcases hh with h | h
  ·omega
  ·exact hp x h
 have A6 := A.fr F6 hge
 have z6 := F6.size
 obtain ⟨q, cq, pq, pc, ca, cst, _⟩ := A6.s.now.blk
 have D := A.d
 have hlt : now < sg.length := by rw [D.len]; exact (List.getElem?_eq_some_iff.1 hnow).1
 have c6 := o6.cells
 obtain ⟨ad, had, ci⟩ := cst now hlt
 subst had
 refine aS (aV (c6.at0 rfl) (aS (aC (ca.at0 rfl) (aS (aB (c6.at (j := 1) rfl) (bO now rfl hlt (aS ?_)))))))
 rw [Int.toNat_natCast]
 have hbl := pG b
 refine xC _ hbl.1 hbl.2 ⟨_, rfl, aV (c6.at0 rfl) rfl, aC (ca.at0 rfl) rfl, aB (c6.at (j := 1) rfl) rfl, ?_⟩
 rw [← wB]
 have hc256 : (jJ b).toNat < 256 := (jJ b).toNat_lt
 have hcn : (bN (jJ b)).toNat * 1 = (jJ b).toNat := by unfold bN; omega
 refine bO (jJ b).toNat rfl hc256 ?_
 rw [hcn]
 refine aB (ci.at (AQ _ hc256)) ?_
 have hlow : cX (text ++ [b]) = cX text ++ [jJ b] := by unfold cX; rw [List.map_append]; rfl
 have hnx : ws[sg[now].nx (jJ b).toNat]? = some (ls ws (cX (text ++ [b]))) := by
  rw [D.nx now hlt _ (jJ b) hnow, hlow, Ef D.pre' (cX text)]
 generalize sg[now].nx (jJ b).toNat = now' at *
 have hlt' : now' < sg.length := by rw [D.len]; exact (List.getElem?_eq_some_iff.1 hnx).1
 refine aS (cK o6 1 (by simp) rfl fun h8 f8 s8 o8 => ?_)
 have o8 : Own h8 c [.pointer (some a), .int .u16 now', .int .i64 (text.length + 1 : Nat), .slice p' (tl ++ [b]).length cap'] fN := o8
 have R8 := R6.fr f8 fun x hx hb => by subst hb; exact nc5 hx
 have F8 : Fr (fun x => x = c.block ∨ InA p x) h h8 := F6.tr f8 fun x hx hh => .inl hh
 have z8 := F8.size
 have A8 := A.fr F8 hge
 have C8 : wX h8 c a now' (text.length + 1) (tl ++ [b]) p' cap' := ⟨o8, R8, nc5⟩
 have hp' : ∀ x, InA p' x → InA p x ∨ h.size ≤ x := fun x hx => by
  rcases hn5 x hx with h | h
  ·exact .inl h
  ·exact .inr (by omega)
 refine aS (aB (o8.cells.at (j := 1) rfl) ?_)
 generalize hu0 : ls ws (cX (text ++ [b])) = u0 at *
 have hu0s : u0 <:+ cX (text ++ [b]) := by rw [← hu0]; exact uh _
 have hfn := E6 D A.w A.ok (cX (text ++ [b]))
 rw [hu0] at hfn
 have hm := A.m
 have hpe := Di D A.w A.ok (text ++ [b])
 rw [hu0, ← htl] at hpe
 generalize hsp : spB L (tl ++ [b]) = sp at *
 refine aJ.go (fun n st h' => ∃ (i : Nat) (u : Nm) (F : List Nat), st.2.2.2 = (i : Int) ∧ st.2.1 = F.length ∧ ws[i]? = some u ∧ n = u.length ∧ u <:+ u0 ∧ F ++ (mh ws (iC L L.length) u).filter sp = (mh ws (iC L L.length) u0).filter sp ∧ Fr (fun _ => False) h8 h' ∧ Row 1 inV h' st.1 st.2.2.1 F ∧ ∀ x, InA st.1 x → h8.size ≤ x) u0.length
  ⟨now', u0, [], rfl, rfl, hnx, rfl, List.suffix_refl _, rfl, Fr.refl _ _, Row.nil, fun x hx => (dR hx).elim⟩ ?_
 rintro n ⟨ra, rn, rc, t⟩ h9 ⟨i, u, F, e1, e2, hu, rfl, hus, hF, f9, R9, hr⟩ Kn hK
 dsimp only at e1 e2 R9 hr
 subst e1 e2
 dsimp only
 unfold jg
 have z9 := f9.size
 have hFl : F.length ≤ 512 := by
  have h1 := congrArg List.length hF
  rw [List.length_append] at h1
  have := List.length_filter_le sp (mh ws (iC L L.length) u0)
  omega
 have A9 := A8.fr0 f9
 refine rM (fun hi => ?_) fun hi => ?_
 ·have hil : i < sg.length := by rw [D.len]; exact (List.getElem?_eq_some_iff.1 hu).1
  have hune : u ≠ [] := fun h => by
   subst h
   exact hi (by rw [iV D.nd hu D.z]; rfl)
  have C9 := C8.fr0 f9
  have c9 := C9.own.cells
  have X9 := A9.s.now
  obtain ⟨q, cq, pq, pc, ca9, cst9, _⟩ := X9.blk
  obtain ⟨ad9, had9, ci9⟩ := cst9 i hil
  subst had9
  refine aS (aV (c9.at0 rfl) (aS (aC (ca9.at0 rfl) (bO i rfl hil (aS ?_)))))
  rw [Int.toNat_natCast]
  refine aC (ci9.at (Bh _)) ?_
  have hen := D.en i hil u hu
  have hE := X9.ends i hil
  have hel := An L L.length u
  rw [← hen] at hel
  refine JU hE (by omega) _ sp (fun h' f' j hj K hK => ?_) fun r2 rc2 h10 f10 R10 hr10 => ⟨_, _, _, rfl, ?_⟩
  ·rw [cF]
   rw [hen] at hj
   obtain ⟨hj1, hj2⟩ := rO.1 hj
   rw [Ah L j hj1] at hj2
   have hjl : L[j].t.length ≤ text.length + 1 := by
    have := (hus.trans hu0s).length_le
    rw [← hj2, j0, j0] at this
    simpa using this
   have h64 := (ur A.ok _ (List.getElem_mem hj1)).2
   rw [← hsp] at hK
   refine HY (A9.fr0 f').s.now (C9.fr0 f') j hj1 ?_ htl64 hK
   rw [htl, List.length_drop, List.length_append, List.length_singleton]; omega
  have z10 := f10.size
  refine (R9.fr0 f10).appL ua Tryz.underlying46 (by intro k e; cases e) (by kernel_rfl) (by decide +kernel) ux (fun _ => rfl) (R10.src ux (by decide)) (by have := List.length_filter_le sp sg[i].en; omega) fun p11 cap11 h11 R11 f11 hn11 => ⟨_, _, _, rfl, ?_⟩
  have f911 : Fr (fun _ => False) h8 h11 := (f9.trans f10).tr f11 fun x hx hh => by have := hr x hh; omega
  have F911 : Fr (InA ra) h9 h11 := (f10.mono fun _ h => h.elim).tr f11 fun x hx hh => hh
  have C11 := C8.fr0 f911
  have A11 := A8.fr0 f911
  have c11 := C11.own.cells
  obtain ⟨q, cq, pq, pc, ca11, cst11, _⟩ := A11.s.now.blk
  obtain ⟨ad11, had11, ci11⟩ := cst11 i hil
  subst had11
  refine aS (aV (c11.at0 rfl) (aS (aC (ca11.at0 rfl) (bO i rfl hil (aS ?_)))))
  refine aB (ci11.at (Ha _)) ?_
  have hou := D.ou i hil u hu
  have hol := tQ (sg := ws) (iC L L.length) _ u (Nat.le_refl _) hune
  refine hK _ _ _ hol ⟨sg[i].ou, tB ws (iC L L.length) u, _, rfl, rfl, hou, rfl, (yW _ _ u (Nat.le_refl _)).trans hus, ?_, f911, R11, fun x hx => ?_⟩
  ·rw [← hF, wT _ hune, List.filter_append, hen, List.append_assoc]
  ·rcases hn11 x hx with h | h
   ·exact hr x h
   ·omega
 ·have hun : u = [] := by
   have : i = 0 := by omega
   subst this
   exact Option.some.inj (hu.symm.trans D.z)
  subst hun
  rw [sk, List.filter_nil, List.append_nil] at hF
  subst hF
  unfold jl
  refine HW R9 (by omega) hpe (CO _ _) fun h10 f10 R10 => ⟨rfl, ?_⟩
  rw [hpe.length_eq]
  have f810 : Fr (fun _ => False) h8 h10 := f9.tr f10 fun x hx hh => by have := hr x hh; omega
  refine hk h10 now' p' cap' ra rc (F8.tr f810 fun _ _ h => h.elim) ?_ hnx hp' R10 (fun x hx => by have := hr x hx; omega) fun x hx hh => ?_
  ·rw [← htl]; exact C8.fr0 f810
  ·have := hr x hx
   have := R8.lt hh
   omega
theorem Jm [Gh] (A : wk N h a sg ws L) {now : Nat} {p : Option Addr} {cap : Nat} (text : Nm) (C : wX h c a now text.length (text.drop (text.length - 64)) p cap) (hN : N ≤ c.block) (hp : ∀ x, InA p x → N ≤ x) (b : UInt8)
  (hnow : ws[now]? = some (ls ws (cX text))) (hlen : text.length ≤ 2 ^ 30) {Q : Value → aA → Prop}
  (hk : ∀ h' now' p' cap' r rc, Fr (fun x => x = c.block ∨ InA p x) h h' → wX h' c a now' (text.length + 1) ((text ++ [b]).drop ((text ++ [b]).length - 64)) p' cap' → ws[now']? = some (ls ws (cX (text ++ [b]))) → (∀ x, InA p' x → InA p x ∨ h.size ≤ x) → Row 1 inV h' r rc (na L (text ++ [b])) → (∀ x, InA r x → h.size ≤ x) → (∀ x, InA r x → ¬ InA p' x) → Q (.slice r (na L (text ++ [b])).length rc) h') :
  aD Tryz.prog fW #[.pointer (some c), .int .u8 (bN b)] h Q := by
 apply rJ
 unfold my
 have cc := C.own.cells
 have lt := C.own.lt
 refine aS (aB (cc.at (j := 2) rfl) ?_)
 rw [wr (by omega) (by omega)]
 refine aS (cK C.own 2 (by simp) rfl fun h1 f1 s1 o1 => ?_)
 have o1 : Own h1 c [.pointer (some a), .int .u16 now, .int .i64 (text.length + 1 : Nat), .slice p (text.drop (text.length - 64)).length cap] fN := o1
 have R1 := C.row.fr f1 fun x hx hb => by subst hb; exact C.nc hx
 have F1 : Fr (fun x => x = c.block ∨ InA p x) h h1 := f1.mono fun x hx => .inl hx
 have z1 := F1.size
 have hge : ∀ x, x < h.size → (x = c.block ∨ InA p x) → N ≤ x := fun x hx hh => by
  rcases hh with h | h
  ·omega
  ·exact hp x h
 have c1 := o1.cells
 have hts := E3 text b
 refine aS (aC (c1.at (j := 3) rfl) (ifE (fun e => ?_) fun e => ?_))
 ·rw [if_pos (by omega)] at hts
  generalize htl : text.drop (text.length - 64) = tl at *
  refine aS (aC (c1.at (j := 3) rfl) ?_)
  refine ⟨by omega, by have := R1.le; omega, aS (aC (c1.at (j := 3) rfl) ?_)⟩
  have hl64 : tl.length = 64 := by omega
  refine BW R1 1 rfl (by omega) fun p2 c2 h3 h4 => ?_
  have R0 : Row 1 bV h1 p cap [] := R1.none0
  have s : Src h1 1 (.slice p2 (tl.drop 1).length c2) (tl.drop 1).length ((tl.drop 1).flatMap bV) := by
   rw [ut]
   cases p2 with
   | none => exact absurd (congrArg List.length (h4 rfl)) (by rw [List.length_drop, List.length_nil]; omega)
   | some ad => exact .sl ad _ _ _ (by unfold dX; rw [List.length_map, Nat.mul_one]) (h3 ad rfl)
  refine R0.appL BO Tryz.underlying98 (by intro k e; cases e) (by kernel_rfl) (by decide +kernel) wE (fun _ => rfl) s (by rw [List.length_drop, List.length_nil]; omega) fun p5 cap5 h5 R5 f5 hn5 => ⟨_, _, _, rfl, ?_⟩
  rw [List.nil_append] at R5 ⊢
  have z5 := f5.size
  have o5 := o1.fr f5 C.nc
  have nc5 : ¬ InA p5 c.block := fun hh => by
   rcases hn5 _ hh with h | h
   ·exact C.nc h
   ·omega
  refine aS (cK o5 3 (by simp) rfl fun h6 f6 s6 o6 => ?_)
  have o6 : Own h6 c [.pointer (some a), .int .u16 now, .int .i64 (text.length + 1 : Nat), .slice p5 (tl.drop 1).length cap5] fN := o6
  have R6 := R5.fr f6 fun x hx hb => by subst hb; exact nc5 hx
  have F6 : Fr (fun x => x = c.block ∨ InA p x) h h6 := (F1.tr f5 fun x hx hh => .inr hh).tr f6 fun x hx hh => .inl hh
  have z6 := F6.size
  have hp5 : ∀ x, InA p5 x → InA p x ∨ h.size ≤ x := fun x hx => by
   rcases hn5 x hx with h | h
   ·exact .inl h
   ·exact .inr (by omega)
  refine DY (A.fr F6 hge) text ⟨o6, R6, nc5⟩ hN (fun x hx => ?_) b hts.symm hnow hlen fun h' now' p' cap' r rc f C' hn' hp' R hr hrp => ?_
  ·rcases hp5 x hx with h | h
   ·exact hp x h
   ·have := A.s.1; omega
  ·refine hk h' now' p' cap' r rc (F6.tr f fun x hx hh => ?_) C' hn' (fun x hx => ?_) R (fun x hx => by have := hr x hx; omega) hrp
   ·rcases hh with h | h
    ·exact .inl h
    ·rcases hp5 x h with h | h
     ·exact .inr h
     ·omega
   ·rcases hp' x hx with h | h
    ·exact hp5 x h
    ·exact .inr (by omega)
 ·rw [if_neg (by omega)] at hts
  refine DY (A.fr F1 hge) text ⟨o1, R1, C.nc⟩ hN hp b hts.symm hnow hlen fun h' now' p' cap' r rc f C' hn' hp' R hr hrp => ?_
  refine hk h' now' p' cap' r rc (F1.trans f) C' hn' (fun x hx => ?_) R (fun x hx => by have := hr x hx; omega) hrp
  rcases hp' x hx with h | h
  ·exact .inl h
  ·exact .inr (by omega)
end
end Go.Proofs.YtjmfpeiidlpngaaGreatDoor.Au
namespace Go.Proofs.YtjmfpeiidlpngaaGreatDoor.Au
set_option linter.unusedSimpArgs false
set_option linter.unusedVariables false
set_option maxRecDepth 20000
open Go
open Go.IntKind (wrap)
theorem yO (p : Pt) (s : Nm) (n : Nat) : tk p (s.take n) n = tk p s n := by
 unfold tk
 by_cases h : p.t.length ≤ n
 ·have : yH (s.take n) p.t.length n = yH s p.t.length n := by
   unfold yH
   rw [List.drop_take, List.take_take]
   congr 1; omega
  rw [this]
 ·simp [h]
theorem D3 {α β : Type} (f : α → Bool) (g : α → β) : ∀ l : List α, (l.flatMap fun x => if f x = true then [g x] else []) = (l.filter f).map g
 | [] => rfl
 | x :: l => by
  rw [List.flatMap_cons, D3 f g l, List.filter_cons]
  by_cases h : f x = true
  ·rw [if_pos h, if_pos h]; rfl
  ·rw [if_neg h, if_neg h]; rfl
theorem Hl (L : List Pt) (s : Nm) (n : Nat) (hn : n ≤ s.length) : hA L s n L.length = (na L (s.take n)).map fun j => (j, n) := by
 unfold hA na
 rw [D3]
 have e : (s.take n).length = n := by rw [List.length_take]; omega
 rw [e]
 congr 1
 refine List.filter_congr fun j _ => (yO _ s n).symm
def rI (N : Nat) (ws : List Nm) (h : aA) (c a : Addr) (text : Nm) (p : Option Addr) : Prop :=
 ∃ now cap, wX h c a now text.length (text.drop (text.length - 64)) p cap ∧ ws[now]? = some (ls ws (cX text)) ∧ N ≤ c.block ∧ ∀ x, InA p x → N ≤ x
section
variable {N : Nat} {h : aA} {c a : Addr} {sg : List St} {ws : List Nm} {L : List Pt} {text : Nm} {p : Option Addr}
theorem rI.fr {S : Nat → Prop} {h' : aA} (C : rI N ws h c a text p) (f : Fr S h h') (h1 : ¬ S c.block) (h2 : ∀ x, InA p x → ¬ S x) : rI N ws h' c a text p := by
 obtain ⟨now, cap, C, r⟩ := C
 exact ⟨now, cap, C.fr f h1 h2, r⟩
theorem rI.fr0 {h' : aA} (f : Fr (fun _ => False) h h') (C : rI N ws h c a text p) : rI N ws h' c a text p := C.fr f id fun _ _ => id
theorem rI.lt (C : rI N ws h c a text p) : c.block < h.size := by
 obtain ⟨_, _, C, _⟩ := C; exact C.own.lt
theorem rI.lt' (C : rI N ws h c a text p) {x : Nat} (hx : InA p x) : x < h.size := by
 obtain ⟨_, _, C, _⟩ := C; exact C.row.lt hx
theorem rI.ge (C : rI N ws h c a text p) {x : Nat} (hx : x = c.block ∨ InA p x) : N ≤ x := by
 obtain ⟨_, _, _, _, h1, h2⟩ := C
 rcases hx with h | h
 ·omega
 ·exact h2 x h
theorem wm [Gh] (A : wk N h a sg ws L) {Q : Value → aA → Prop} (hk : ∀ c h', Fr (fun _ => False) h h' → h.size ≤ c.block → rI N ws h' c a [] none → Q (.pointer (some c)) h') : aD Tryz.prog dY #[.pointer (some a)] h Q := by
 apply pr
 unfold kz
 refine zk (aZ (vs := [.pointer (some a), .int .u16 0, .int .i64 0, .slice none 0 0]) fun c h1 f1 e1 o1 => ?_)
 have := A.s.1
 exact hk c h1 f1 (by omega) ⟨0, 0, ⟨o1, Row.nil, dR⟩, A.d.z, by omega, fun x hx => (dR hx).elim⟩
theorem Kf [Gh] (A : wk N h a sg ws L) (C : rI N ws h c a text p) (b : UInt8) (hlen : text.length ≤ 2 ^ 30) {Q : Value → aA → Prop}
  (hk : ∀ h' p' r rc, Fr (fun x => x = c.block ∨ InA p x) h h' → rI N ws h' c a (text ++ [b]) p' → (∀ x, InA p' x → InA p x ∨ h.size ≤ x) → Row 1 inV h' r rc (na L (text ++ [b])) → (∀ x, InA r x → h.size ≤ x) → (∀ x, InA r x → ¬ InA p' x) → Q (.slice r (na L (text ++ [b])).length rc) h') :
  aD Tryz.prog fW #[.pointer (some c), .int .u8 (bN b)] h Q := by
 obtain ⟨now, cap, C, hn, h1, h2⟩ := C
 refine Jm A text C h1 h2 b hn hlen fun h' now' p' cap' r rc f C' hn' hp' R hr hrp => ?_
 refine hk h' p' r rc f ⟨now', cap', ?_, hn', h1, fun x hx => ?_⟩ hp' R hr hrp
 ·rw [List.length_append, List.length_singleton] at C' ⊢; exact C'
 ·rcases hp' x hx with h | h
  ·exact h2 x h
  ·have := A.s.1; omega
theorem Hm [Gh] (A : wk N h a sg ws L) (C : rI N ws h c a text p) (s : Nm) (hlen : text.length + s.length ≤ 2 ^ 16) {Q : Value → aA → Prop}
  (hk : ∀ h' p' r rc, Fr (fun x => x = c.block ∨ InA p x) h h' → rI N ws h' c a (text ++ s) p' → (∀ x, InA p' x → InA p x ∨ h.size ≤ x) → Row 2 yI h' r rc (oS L (text ++ s) text.length s.length) → (∀ x, InA r x → h.size ≤ x) → (∀ x, InA r x → ¬ InA p' x) → Q (.slice r (oS L (text ++ s) text.length s.length).length rc) h') :
  aD Tryz.prog fY #[.pointer (some c), .string (bs s)] h Q := by
 apply rE
 unfold mn
 rw [bR]
 have lt := C.lt
 have hm := A.m
 have hcap : ∀ k, k ≤ s.length → (oS L (text ++ s) text.length k).length ≤ 2 ^ 25 := fun k hk => by
  have h1 := vB L (text ++ s) text.length k
  have h2 : k * L.length ≤ 2 ^ 16 * 512 := Nat.mul_le_mul (by omega) hm
  omega
 refine zk ?_
 refine aJ.go (fun n st h' => ∃ (i : Nat) (p' : Option Addr), st.2.2.2 = (i : Int) ∧ st.2.1 = (oS L (text ++ s) text.length i).length ∧ i ≤ s.length ∧ n = s.length - i ∧ Fr (fun x => x = c.block ∨ InA p x) h h' ∧ rI N ws h' c a (text ++ s.take i) p' ∧ (∀ x, InA p' x → InA p x ∨ h.size ≤ x) ∧ Row 2 yI h' st.1 st.2.2.1 (oS L (text ++ s) text.length i) ∧ (∀ x, InA st.1 x → h.size ≤ x) ∧ (∀ x, InA st.1 x → ¬ InA p' x)) s.length
  ⟨0, p, rfl, rfl, by omega, rfl, Fr.refl _ _, by rw [List.take_zero, List.append_nil]; exact C, fun x hx => .inl hx, Row.nil, fun x hx => (dR hx).elim, fun x hx => (dR hx).elim⟩ ?_
 rintro n ⟨oa, on, oc, t⟩ h1 ⟨i, p1, e1, e2, hi, rfl, f1, C1, hp1, R1, ho1, hd1⟩ Kn hK
 dsimp only at e1 e2 R1 ho1 hd1
 subst e1 e2
 dsimp only
 unfold jo
 have z1 := f1.size
 have hge : ∀ x, x < h.size → (x = c.block ∨ InA p x) → N ≤ x := fun x _ hx => C.ge hx
 have A1 := A.fr f1 hge
 refine ifD (fun e => ?_) fun e => ?_
 ·have hil : i < s.length := by omega
  refine ixS s i rfl hil ?_
  have hck := hcap i (by omega)
  have htk : text ++ s.take i ++ [s[i]] = text ++ s.take (i + 1) := by rw [List.append_assoc, List.take_append_getElem]
  refine Kf A1 C1 s[i] (by rw [List.length_append, List.length_take]; omega) fun h2 p2 r rc f2 C2 hp2 R2 hr2 hrp2 => ⟨_, _, _, rfl, ?_⟩
  rw [htk] at C2 R2 ⊢
  have z2 := f2.size
  have hn2 : (text ++ s.take (i + 1)).length = text.length + 1 + i := by rw [List.length_append, List.length_take]; omega
  have hfd : hA L (text ++ s) (text.length + 1 + i) L.length = (na L (text ++ s.take (i + 1))).map fun j => (j, text.length + 1 + i) := by
   rw [Hl L (text ++ s) _ (by rw [List.length_append]; omega)]
   congr 2
   rw [List.take_append, List.take_of_length_le (by omega)]
   congr 2; omega
  have hfl : (na L (text ++ s.take (i + 1))).length ≤ 512 := by
   unfold na
   exact Nat.le_trans (List.length_filter_le ..) (by rw [List.length_range]; exact hm)
  generalize hFd : na L (text ++ s.take (i + 1)) = F at *
  have R12 : Row 2 yI h2 oa oc (oS L (text ++ s) text.length i) := R1.fr f2 fun x hx hh => by
   rcases hh with hh | hh
   ·have := ho1 x hx; omega
   ·exact hd1 x hx hh
  have F2 : Fr (fun x => x = c.block ∨ InA p x) h h2 := f1.tr f2 fun x hx hh => by
   rcases hh with hh | hh
   ·exact .inl hh
   ·rcases hp1 x hh with h | h
    ·exact .inr h
    ·omega
  have hp2' : ∀ x, InA p2 x → InA p x ∨ h.size ≤ x := fun x hx => by
   rcases hp2 x hx with h | h
   ·exact hp1 x h
   ·exact .inr (by omega)
  have d2 : ∀ x, InA oa x → ¬ InA p2 x := fun x hx hh => by
   rcases hp2 x hh with h | h
   ·exact hd1 x hx h
   ·have := R1.lt hx; omega
  have dr2 : ∀ x, InA r x → ¬ InA oa x := fun x hx hh => by have := hr2 x hx; have := R1.lt hh; omega
  refine aJ.go (fun n st h' => ∃ (k : Nat), st.2.2.2 = (k : Int) ∧ st.2.1 = (oS L (text ++ s) text.length i ++ (F.take k).map fun j => (j, text.length + 1 + i)).length ∧ k ≤ F.length ∧ n = F.length - k ∧ Fr (fun x => x = c.block ∨ InA p x) h h' ∧ rI N ws h' c a (text ++ s.take (i + 1)) p2 ∧ Row 1 inV h' r rc F ∧ Row 2 yI h' st.1 st.2.2.1 (oS L (text ++ s) text.length i ++ (F.take k).map fun j => (j, text.length + 1 + i)) ∧ (∀ x, InA st.1 x → h.size ≤ x) ∧ (∀ x, InA st.1 x → ¬ InA p2 x) ∧ (∀ x, InA r x → ¬ InA st.1 x)) F.length
   ⟨0, rfl, by simp, by omega, rfl, F2, C2, R2, by simpa using R12, ho1, d2, dr2⟩ ?_
  rintro n ⟨oa, on, oc, t⟩ h3 ⟨k, e1, e2, hk', rfl, f3, C3, Rr3, R3, ho3, hd3, hr3⟩ Kn2 hK2
  dsimp only at e1 e2 R3 ho3 hd3 hr3
  subst e1 e2
  dsimp only
  unfold jk
  have z3 := f3.size
  refine ifD (fun e => ?_) fun e => ?_
  ·have hkl : k < F.length := by omega
   refine Rr3.idx ux (by decide) k rfl hkl fun ad ci => ?_
   rw [Int.toNat_natCast]
   have c3 := C3
   obtain ⟨now3, cap3, Cf3, _⟩ := c3
   have hat := Cf3.own.cells.at (j := 2) rfl
   rw [hn2] at hat
   refine aB (ci.at0 rfl) (aS (aB hat ?_))
   refine aZ (vs := yI (F[k], text.length + 1 + i)) fun t33 h4 f4 e4 o4 => ?_
   have z4 := f4.size
   have e5 : (oS L (text ++ s) text.length i ++ (F.take k).map fun j => (j, text.length + 1 + i)) ++ [(F[k], text.length + 1 + i)] = oS L (text ++ s) text.length i ++ (F.take (k + 1)).map fun j => (j, text.length + 1 + i) := by
    rw [List.append_assoc, show F.take (k + 1) = F.take k ++ [F[k]] by rw [List.take_append_getElem], List.map_append]; rfl
   refine Jl (R3.fr0 f4) o4 (by rw [List.length_append, List.length_map, List.length_take]; omega) fun p' c' h5 R5 f5 hn5 => ⟨_, _, _, rfl, ?_⟩
   rw [e5] at R5 ⊢
   rw [wr (by omega) (by omega)]
   have lt3 := C3.lt
   refine hK2 (F.length - (k + 1)) _ _ (by omega) ⟨k + 1, rfl, rfl, hkl, rfl, (f3.tr f4 fun _ _ h => h.elim).tr f5 fun x hx hh => by have := ho3 x hh; omega, (C3.fr0 f4).fr f5 (fun hh => by have := ho3 _ hh; omega) (fun x hx hh => hd3 x hh hx), (Rr3.fr0 f4).fr f5 (fun x hx hh => hr3 x hx hh), R5, fun x hx => ?_, fun x hx hh => ?_, fun x hx hh => ?_⟩
   ·rcases hn5 x hx with h | h
    ·exact ho3 x h
    ·omega
   ·rcases hn5 x hx with h | h
    ·exact hd3 x h hh
    ·have := C3.lt' hh; omega
   ·rcases hn5 x hh with h | h
    ·exact hr3 x hx h
    ·have := Rr3.lt hx; omega
  ·have : k = F.length := by omega
   subst this
   rw [List.take_length, ← hfd, ← Aw] at R3 ⊢
   rw [wr (by omega) (by omega)]
   exact hK (s.length - (i + 1)) _ _ (by omega) ⟨i + 1, p2, rfl, rfl, hil, rfl, f3, C3, hp2', R3, ho3, hd3⟩
 ·have : i = s.length := by omega
  subst this
  rw [List.take_length] at C1
  exact hk h1 p1 oa oc f1 C1 hp1 R1 ho1 hd1
theorem J6 [Gh] (A : wk N h a sg ws L) (s : Nm) (hlen : s.length ≤ 2 ^ 16) {Q : Value → aA → Prop}
  (hk : ∀ h' r rc, Fr (fun _ => False) h h' → Row 2 yI h' r rc (oS L s 0 s.length) → (∀ x, InA r x → h.size ≤ x) → Q (.slice r (oS L s 0 s.length).length rc) h') :
  aD Tryz.prog iE #[.pointer (some a), .string (bs s)] h Q := by
 apply qr
 unfold lw
 refine wm A fun c h1 f1 hc C1 => ⟨_, rfl, ?_⟩
 have z1 := f1.size
 refine Hm (A.fr0 f1) C1 s (by rw [List.length_nil]; omega) fun h2 p' r rc f2 C2 hp' R2 hr hrp => ⟨_, _, _, rfl, ?_⟩
 rw [List.nil_append, List.length_nil] at R2 ⊢
 exact hk h2 r rc (f1.tr f2 fun x hx hh => by
  rcases hh with h | h
  ·omega
  ·exact (dR h).elim) R2 fun x hx => by have := hr x hx; omega
end
end Go.Proofs.YtjmfpeiidlpngaaGreatDoor.Au
namespace Go.Proofs.YtjmfpeiidlpngaaGreatDoor
set_option linter.unusedSimpArgs false
set_option linter.unusedVariables false
set_option maxRecDepth 20000
open Go
open Go.IntKind (wrap)
theorem qh (n : Int) : (Au.nf n).length = 1 := rfl
theorem H9 (n : Int) : (Au.nf n).all ee = true := rfl
def Hy (p : Nat → Bool) (n : Nat) : List Int := ((List.range n).filter p).map fun i : Nat => (i : Int)
def atB (q : Bd → Bool) (l : List Bd) (i : Nat) : Bool := (l[i]?).any q
theorem yr (q : Bd → Bool) (l : List Bd) (i : Nat) (hi : i < l.length) : atB q l i = q l[i] := by
 unfold atB; rw [List.getElem?_eq_getElem hi]; rfl
theorem FM {q : Bd → Bool} (hq : ∀ b, q (wipe b) = q b) {l l' : List Bd} (e : l.map wipe = l'.map wipe) : atB q l = atB q l' := by
 have h : ∀ l : List Bd, atB q l = atB q (l.map wipe) := fun l => by
  funext i
  unfold atB
  rw [List.getElem?_map]
  cases l[i]? with
  | none => rfl
  | some b => exact (hq b).symm
 rw [h, h l', e]
section
variable {N : Nat} {h : aA} {s : Addr} {bs : List Bd} {gs : List Gr} {Q : Value → aA → Prop}
theorem vt.rd (T : vt N h s bs gs) (hb : bs.length ≤ 40) : ∃ p1 c1 v, aW h s [.slice p1 bs.length c1, v] ∧ bF 25 aE.vals aE.ok h ⟨p1, c1, bs⟩ := by
 obtain ⟨hN, p1, c1, m, mm, k1, k2⟩ := T
 obtain ⟨c, R, ok, _⟩ := k1.now
 exact ⟨p1, c1, _, c, R.sl Ao (by omega) (by omega) ok⟩
theorem D9 [Gh] (T : vt N h s bs gs) (hb : bs.length ≤ 40) (hk : Q (.int .i64 bs.length) h) : aD Tryz.prog iB #[.pointer (some s)] h Q := by
 apply wh
 unfold qy
 obtain ⟨p1, c1, v, c, _⟩ := T.rd hb
 exact zk (aS (aC (c.at0 rfl) hk))
def uy : Bd := ⟨⟨0, 0, rB, rB, rB, rB, false, 0, 0, 0, [], 0, 0, rB, rB, rB, rB, ⟨0, 0, 0, 0⟩⟩, rB, rB, rB, rB⟩
set_option maxHeartbeats 1000000 in
theorem JR [Gh] (T : vt N h s bs gs) (hb : bs.length ≤ 40) (sd : ∀ b ∈ bs, Snd b) (i : Int)
  (hno : ∀ h', Fr (fun _ => False) h h' → ¬ (0 ≤ i ∧ i < bs.length) → Q (.tuple #[.agg uy.vals.toArray, .bool false]) h')
  (hk : ∀ (n : Nat) (hn : n < bs.length) b' h', Fr (fun _ => False) h h' → i = n → aE.ok h' b' → wipe b' = wipe bs[n] → Q (.tuple #[.agg b'.vals.toArray, .bool true]) h') :
  aD Tryz.prog lF #[.pointer (some s), .int .i64 i] h Q := by
 apply vn
 unfold ql
 refine aZ (vs := uy.vals) fun t4 h1 f1 e1 o1 => ?_
 have z1 := f1.size
 have no : ¬ (0 ≤ i ∧ i < bs.length) → gT t4 Q h1 := fun hn => by
  unfold gT
  refine jr o1 (ws := uy.vals) (by rfl) (by rfl) fun h2 f2 z2 o2 => ?_
  have F := f1.tr f2 fun x hx hh => by omega
  refine (aB (o2.cells.at0 rfl) (aB (o2.cells.at rfl) (aC (o2.cells.at rfl) (aC (o2.cells.at rfl) (aC (o2.cells.at rfl) (aC (o2.cells.at rfl) (aN (o2.cells.at rfl) (aB (o2.cells.at rfl) (aB (o2.cells.at rfl) (aB (o2.cells.at rfl) (bH (o2.cells.at rfl) (aB (o2.cells.at rfl) (aB (o2.cells.at rfl) (aC (o2.cells.at rfl) (aC (o2.cells.at rfl) (aC (o2.cells.at rfl) (aC (o2.cells.at rfl) (aB (o2.cells.at rfl) (aB (o2.cells.at rfl) (aB (o2.cells.at rfl) (aB (o2.cells.at rfl) (aC (o2.cells.at rfl) (aC (o2.cells.at rfl) (aC (o2.cells.at rfl) (aC (o2.cells.at rfl) ?_)))))))))))))))))))))))))
  exact hno h2 F hn
 refine ifD (fun hneg => no (by omega)) fun hpos => ?_
 refine D9 (T.fr0 f1) hb ⟨_, rfl, ?_⟩
 refine ifD (fun hge => no (by omega)) fun hlt => ?_
 obtain ⟨n, rfl⟩ : ∃ n : Nat, i = n := ⟨i.toNat, by omega⟩
 have hn : n < bs.length := by omega
 obtain ⟨p1, c1, v, c, ok⟩ := (T.fr0 f1).rd hb
 refine aS (aC (c.at0 rfl) ?_)
 refine dH ok n rfl hn fun ad cc okr => ?_
 rw [Int.toNat_natCast]
 refine (aB (cc.at0 rfl) (aB (cc.at rfl) (aC (cc.at rfl) (aC (cc.at rfl) (aC (cc.at rfl) (aC (cc.at rfl) (aN (cc.at rfl) (aB (cc.at rfl) (aB (cc.at rfl) (aB (cc.at rfl) (bH (cc.at rfl) (aB (cc.at rfl) (aB (cc.at rfl) (aC (cc.at rfl) (aC (cc.at rfl) (aC (cc.at rfl) (aC (cc.at rfl) (aB (cc.at rfl) (aB (cc.at rfl) (aB (cc.at rfl) (aB (cc.at rfl) (aC (cc.at rfl) (aC (cc.at rfl) (aC (cc.at rfl) (aC (cc.at rfl) ?_)))))))))))))))))))))))))
 refine Cv bs[n] okr (sd _ (List.getElem_mem hn)).len fun b' h2 f2 S2 w2 => ⟨_, _, _, _, _, _, _, _, _, _, _, _, _, _, _, _, _, _, _, _, _, _, _, _, _, _, _, _, _, _, _, _, _, _, _, _, _, _, _, _, _, _, _, _, _, _, _, _, _, rfl, ?_⟩
 have o12 := o1.fr0 f2
 have z2 := f2.size
 refine jr o12 (ws := b'.vals) (by rfl) (by rfl) fun h3 f3 z3 o3 => ?_
 refine (aB (o3.cells.at0 rfl) (aB (o3.cells.at rfl) (aC (o3.cells.at rfl) (aC (o3.cells.at rfl) (aC (o3.cells.at rfl) (aC (o3.cells.at rfl) (aN (o3.cells.at rfl) (aB (o3.cells.at rfl) (aB (o3.cells.at rfl) (aB (o3.cells.at rfl) (bH (o3.cells.at rfl) (aB (o3.cells.at rfl) (aB (o3.cells.at rfl) (aC (o3.cells.at rfl) (aC (o3.cells.at rfl) (aC (o3.cells.at rfl) (aC (o3.cells.at rfl) (aB (o3.cells.at rfl) (aB (o3.cells.at rfl) (aB (o3.cells.at rfl) (aB (o3.cells.at rfl) (aC (o3.cells.at rfl) (aC (o3.cells.at rfl) (aC (o3.cells.at rfl) (aC (o3.cells.at rfl) ?_)))))))))))))))))))))))))
 have l1 := o1.lt
 exact hk n hn b' h3 ((f1.trans f2).tr f3 fun x hx hh => by omega) rfl (S2.fr f3 (B' := fun x => h1.size ≤ x) (fun x hx h1 hh => by omega) fun x hx h => h).now w2
end
end Go.Proofs.YtjmfpeiidlpngaaGreatDoor
namespace Go.Proofs.YtjmfpeiidlpngaaGreatDoor.Au
set_option linter.unusedSimpArgs false
set_option linter.unusedVariables false
set_option maxRecDepth 20000
open Go
open Go.IntKind (wrap)
def mkB (x : Int) : UInt8 := UInt8.ofNat x.toNat
theorem yd {x : Int} (h0 : 0 ≤ x) (h1 : x ≤ 255) : bN (mkB x) = x := by
 unfold bN mkB
 rw [UInt8.toNat_ofNat']; omega
def oV (c : Int) : Int := if 48 ≤ c ∧ c ≤ 57 then c - 48 else if 97 ≤ c ∧ c ≤ 102 then c - 87 else if 65 ≤ c ∧ c ≤ 70 then c - 55 else -1
theorem Bp (c : Int) : -1 ≤ oV c ∧ oV c ≤ 15 := by unfold oV; split <;> (try split) <;> (try split) <;> omega
def qO (b : UInt8) : Bool := !(bN b == 9 || bN b == 10 || bN b == 13 || bN b == 32)
def nY (l : Nm) : Nm := l.filter qO
theorem C7 (l : Nm) (i : Nat) (hi : i < l.length) : nY (l.take (i + 1)) = nY (l.take i) ++ (if qO l[i] = true then [l[i]] else []) := by
 unfold nY
 rw [show l.take (i + 1) = l.take i ++ [l[i]] by rw [List.take_append_getElem], List.filter_append, List.filter_cons, List.filter_nil]
def rK : Nm → Nm
 | [] => []
 | [a] => [a]
 | [a, b] => [a, b]
 | c :: a :: b :: r => if bN c = 37 ∧ 0 ≤ oV (bN a) ∧ 0 ≤ oV (bN b) then mkB (16 * oV (bN a) + oV (bN b)) :: rK r else c :: rK (a :: b :: r)
theorem zH {l : Nm} {i : Nat} (hi : i < l.length) (h : bN l[i] ≠ 37 ∨ l.length ≤ i + 2) : rK (l.drop i) = l[i] :: rK (l.drop (i + 1)) := by
 rw [List.drop_eq_getElem_cons hi]
 cases h1 : l.drop (i + 1) with
 | nil => rfl
 | cons a r =>
  cases r with
  | nil => rfl
  | cons b r =>
   have hl : (l.drop (i + 1)).length = r.length + 2 := by rw [h1]; rfl
   rw [List.length_drop] at hl
   rw [rK, if_neg]
   rintro ⟨h2, _⟩
   rcases h with h | h
   ·exact h h2
   ·omega
theorem ET {l : Nm} {i : Nat} (hi : i + 2 < l.length) : rK (l.drop i) = if bN (l[i]'(by omega)) = 37 ∧ 0 ≤ oV (bN (l[i + 1]'(by omega))) ∧ 0 ≤ oV (bN l[i + 2]) then mkB (16 * oV (bN (l[i + 1]'(by omega))) + oV (bN l[i + 2])) :: rK (l.drop (i + 3)) else l[i]'(by omega) :: rK (l.drop (i + 1)) := by
 have e : l.drop i = l[i]'(by omega) :: l[i + 1]'(by omega) :: l[i + 2] :: l.drop (i + 3) := by
  rw [List.drop_eq_getElem_cons (show i < l.length by omega), List.drop_eq_getElem_cons (show i + 1 < l.length by omega), List.drop_eq_getElem_cons hi]
 have e1 : l.drop (i + 1) = l[i + 1]'(by omega) :: l[i + 2] :: l.drop (i + 3) := by
  rw [List.drop_eq_getElem_cons (show i + 1 < l.length by omega), List.drop_eq_getElem_cons hi]
 rw [e, rK, ← e1]
def rC (high : Int) : Nm → Nm
 | [] => []
 | c :: r => if oV (bN c) < 0 then rC high r else if high < 0 then rC (oV (bN c)) r else mkB (16 * high + oV (bN c)) :: rC (-1) r
section
variable {h : aA} {Q : Value → aA → Prop}
theorem yP [Gh] (c : Int) (h0 : 0 ≤ c) (h1 : c ≤ 255) (hk : Q (.int .i64 (oV c)) h) : aD Tryz.prog iz #[.int .u8 c] h Q := by
 apply wy
 unfold qH jI
 unfold oV at hk
 by_cases a : 48 ≤ c ∧ c ≤ 57
 ·rw [if_pos a] at hk
  rw [if_pos (by simpa using a.1), if_pos (by simpa using a.2), wrb (by omega) (by omega), wr (by omega) (by omega)]; exact hk
 rw [if_neg a] at hk
 have b1 : (if (decide (97 ≤ c)) = true then (if (decide (c ≤ 102)) = true then (Q (.int .i64 (wrap .i64 ((wrap .i64 (wrap .u8 (c - 97))) + 10))) h) else (if (decide (65 ≤ c)) = true then (if (decide (c ≤ 70)) = true then (Q (.int .i64 (wrap .i64 ((wrap .i64 (wrap .u8 (c - 65))) + 10))) h) else (Q (.int .i64 (-1)) h)) else (Q (.int .i64 (-1)) h))) else (if (decide (65 ≤ c)) = true then (if (decide (c ≤ 70)) = true then (Q (.int .i64 (wrap .i64 ((wrap .i64 (wrap .u8 (c - 65))) + 10))) h) else (Q (.int .i64 (-1)) h)) else (Q (.int .i64 (-1)) h))) := by
  by_cases b : 97 ≤ c ∧ c ≤ 102
  ·rw [if_pos b] at hk
   rw [if_pos (by simpa using b.1), if_pos (by simpa using b.2), wrb (x := c - 97) (by omega) (by omega), wr (x := c - 97) (by omega) (by omega), wr (by omega) (by omega), show c - 97 + 10 = c - 87 by omega]; exact hk
  rw [if_neg b] at hk
  have b2 : (if (decide (65 ≤ c)) = true then (if (decide (c ≤ 70)) = true then (Q (.int .i64 (wrap .i64 ((wrap .i64 (wrap .u8 (c - 65))) + 10))) h) else (Q (.int .i64 (-1)) h)) else (Q (.int .i64 (-1)) h)) := by
   by_cases d : 65 ≤ c ∧ c ≤ 70
   ·rw [if_pos d] at hk
    rw [if_pos (by simpa using d.1), if_pos (by simpa using d.2), wrb (x := c - 65) (by omega) (by omega), wr (x := c - 65) (by omega) (by omega), wr (by omega) (by omega), show c - 65 + 10 = c - 55 by omega]; exact hk
   ·rw [if_neg d] at hk
    exact ifD (fun _ => ifD (fun _ => by omega) fun _ => hk) fun _ => hk
  exact ifD (fun _ => ifD (fun _ => by omega) fun _ => b2) fun _ => b2
 exact ifD (fun _ => ifD (fun _ => by omega) fun _ => b1) fun _ => b1
theorem GC [Gh] {h0 h : aA} {p : Option Addr} {cap : Nat} {L : Nm} (R : Row 1 bV h p cap L) (hp : ∀ x, InA p x → h0.size ≤ x) (f : Fr (fun _ => False) h0 h) (hl : L.length ≤ 2 ^ 29) {x : Int} (b : UInt8) (hb : bN b = x) {K : Value → aA → Prop}
  (hk : ∀ p' cap' h', Row 1 bV h' p' cap' (L ++ [b]) → Fr (fun _ => False) h0 h' → (∀ x, InA p' x → h0.size ≤ x) → K (.slice p' (L ++ [b]).length cap') h') :
  alV h (.cells #[.int .u8 x] od) fun t h2 => dN Tryz.prog .append #[aQ, aQ] aQ #[false, false] #[.slice p L.length cap, .slice (some t) 1 1] h2 K := by
 subst hb
 refine aZ (vs := bV b) fun t h2 f2 e2 o2 => ?_
 have z := f.size
 have z2 := f2.size
 refine Kl (R.fr0 f2) o2 hl fun p' c' h3 R3 f3 hn3 => ?_
 refine hk p' c' h3 R3 ((f.trans f2).tr f3 fun x hx hh => by have := hp x hh; omega) fun x hx => ?_
 rcases hn3 x hx with h | h
 ·exact hp x h
 ·omega
theorem uu {b : UInt8} (h : bN b = 9 ∨ bN b = 10 ∨ bN b = 13 ∨ bN b = 32) : qO b = false := by
 unfold qO
 rcases h with h | h | h | h <;> simp [h]
theorem EL {b : UInt8} (h1 : bN b ≠ 9) (h2 : bN b ≠ 10) (h3 : bN b ≠ 13) (h4 : bN b ≠ 32) : qO b = true := by
 unfold qO; simp [h1, h2, h3, h4]
theorem Iu [Gh] (l : Nm) (hl : l.length ≤ 2 ^ 28) (hk : ∀ h', Fr (fun _ => False) h h' → Q (.string (bs (nY l))) h') : aD Tryz.prog mo #[.string (bs l)] h Q := by
 apply r9
 unfold mB
 rw [bR]
 refine aJ.go (fun n st h' => ∃ (i : Nat), st.2.2.2 = (i : Int) ∧ st.2.1 = (nY (l.take i)).length ∧ i ≤ l.length ∧ n = l.length - i ∧ Fr (fun _ => False) h h' ∧ Row 1 bV h' st.1 st.2.2.1 (nY (l.take i)) ∧ (∀ b, InA st.1 b → h.size ≤ b)) l.length
  ⟨0, rfl, rfl, by omega, rfl, Fr.refl _ _, Row.nil, fun b hb => (dR hb).elim⟩ ?_
 rintro n ⟨a, m, c, t⟩ h1 ⟨i, e1, e2, hi, rfl, f1, R1, ha⟩ Kn hK
 dsimp only at e1 e2 R1 ha
 subst e1 e2
 dsimp only
 unfold jz
 have hsl : (nY (l.take i)).length ≤ i := Nat.le_trans (List.length_filter_le ..) (by rw [List.length_take]; omega)
 refine ifD (fun e => ?_) fun e => ?_
 ·have hil : i < l.length := by omega
  have hs := C7 l i hil
  rw [wr (by omega) (by omega)]
  have skip : qO l[i] = false → Kn (a, (nY (l.take i)).length, c, (i : Int) + 1) h1 := fun hb => by
   rw [if_neg (by rw [hb]; decide), List.append_nil] at hs
   exact hK (l.length - (i + 1)) _ _ (by omega) ⟨i + 1, rfl, by dsimp only; rw [hs], hil, rfl, f1, by rw [hs]; exact R1, ha⟩
  have put : qO l[i] = true → cG (bs l) a (nY (l.take i)).length c (i : Int) ((l.length : Nat) : Int) (i : Int) Q Kn h1 := fun hb => by
   unfold cG
   rw [if_pos hb] at hs
   refine ixS l i rfl hil (GC R1 ha f1 (by omega) l[i] rfl fun p' c' h2 R2 f2 hp2 => ⟨_, _, _, rfl, ?_⟩)
   rw [wr (by omega) (by omega)]
   rw [← hs] at R2 ⊢
   exact hK (l.length - (i + 1)) _ _ (by omega) ⟨i + 1, rfl, rfl, hil, rfl, f2, R2, hp2⟩
  refine ixS l i rfl hil ?_
  refine ifE (fun e1 => ?_) fun e1 => ifE (fun e2 => ?_) fun e2 => ifE (fun e3 => ?_) fun e3 => ifE (fun e4 => ?_) fun e4 => put (EL e1 e2 e3 e4)
  ·rw [e1, if_pos (by decide)]; exact skip (uu (.inl e1))
  ·rw [e2, if_pos (by decide)]; exact skip (uu (.inr (.inl e2)))
  ·rw [e3, if_pos (by decide)]; exact skip (uu (.inr (.inr (.inl e3))))
  ·exact skip (uu (.inr (.inr (.inr e4))))
 ·have : i = l.length := by omega
  subst this
  rw [List.take_length] at R1 ⊢
  exact zT R1 ⟨_, rfl, hk h1 f1⟩
theorem ED [Gh] (l : Nm) (hl : l.length ≤ 2 ^ 28) (hk : ∀ h', Fr (fun _ => False) h h' → Q (.string (bs (rK l))) h') : aD Tryz.prog ly #[.string (bs l)] h Q := by
 apply qR
 unfold lL
 refine aJ.go (fun n st h' => ∃ (i : Nat) (out : Nm), st.2.2.2 = (i : Int) ∧ st.2.1 = out.length ∧ out.length ≤ i ∧ i ≤ l.length ∧ n = l.length - i ∧ Fr (fun _ => False) h h' ∧ out ++ rK (l.drop i) = rK l ∧ Row 1 bV h' st.1 st.2.2.1 out ∧ (∀ b, InA st.1 b → h.size ≤ b)) l.length
  ⟨0, [], rfl, rfl, by simp, by omega, rfl, Fr.refl _ _, rfl, Row.nil, fun b hb => (dR hb).elim⟩ ?_
 rintro n ⟨a, m, c, t⟩ h1 ⟨i, out, e1, e2, hol, hi, rfl, f1, hout, R1, ha⟩ Kn hK
 dsimp only at e1 e2 R1 ha
 subst e1 e2
 dsimp only
 unfold iI
 rw [bR]
 refine ifD (fun e => ?_) fun e => ?_
 ·have hil : i < l.length := by omega
  have b2 : rK (l.drop i) = l[i] :: rK (l.drop (i + 1)) → cA (bs l) a out.length c (i : Int) Q Kn h1 := fun hp => by
   unfold cA
   refine ixS l i rfl hil (GC R1 ha f1 (by omega) l[i] rfl fun p' c' h2 R2 f2 hp2 => ⟨_, _, _, rfl, ?_⟩)
   rw [wr (by omega) (by omega)]
   exact hK (l.length - (i + 1)) _ _ (by omega) ⟨i + 1, _, rfl, rfl, by rw [List.length_append, List.length_singleton]; omega, hil, rfl, f2, by rw [← hout, hp, List.append_assoc]; rfl, R2, hp2⟩
  refine ixS l i rfl hil (ifE (fun e3 => ?_) fun e3 => b2 (zH hil (.inl e3)))
  rw [wr (by omega) (by omega)]
  refine ifD (fun e4 => ?_) fun e4 => b2 (zH hil (.inr (by omega)))
  rw [wr (x := (i : Int) + 1) (by omega) (by omega), wr (x := (i : Int) + 2) (by omega) (by omega)]
  have h3 := ET (l := l) (i := i) (by omega)
  refine ixS l (i + 1) (by omega) (by omega) (ixS l (i + 2) (by omega) (by omega) ?_)
  have q1 := pG (l[i + 1]'(by omega))
  have q2 := pG (l[i + 2]'(by omega))
  have d1 := Bp (bN (l[i + 1]'(by omega)))
  have d2 := Bp (bN (l[i + 2]'(by omega)))
  refine yP _ q1.1 q1.2 ⟨_, rfl, yP _ q2.1 q2.2 ⟨_, rfl, ?_⟩⟩
  refine ifD (fun e5 => ifD (fun e6 => ?_) fun e6 => b2 (by rw [h3, if_neg (fun hh => by omega)])) fun e5 => b2 (by rw [h3, if_neg (fun hh => by omega)])
  rw [if_pos ⟨e3, by omega, by omega⟩] at h3
  rw [wr (x := 16 * oV (bN (l[i + 1]'(by omega)))) (by omega) (by omega), wr (x := 16 * oV (bN (l[i + 1]'(by omega))) + oV (bN (l[i + 2]'(by omega)))) (by omega) (by omega), wrb (by omega) (by omega)]
  refine GC R1 ha f1 (by omega) (mkB (16 * oV (bN (l[i + 1]'(by omega))) + oV (bN (l[i + 2]'(by omega))))) (yd (by omega) (by omega)) fun p' c' h2 R2 f2 hp2 => ⟨_, _, _, rfl, ?_⟩
  rw [wr (by omega) (by omega)]
  refine hK (l.length - (i + 3)) _ _ (by omega) ⟨i + 3, _, ?_, rfl, by rw [List.length_append, List.length_singleton]; omega, by omega, rfl, f2, by rw [← hout, h3, List.append_assoc]; rfl, R2, hp2⟩
  dsimp only; omega
 ·have : i = l.length := by omega
  subst this
  rw [List.drop_length] at hout
  have : out = rK l := by rw [← hout]; show out = out ++ []; rw [List.append_nil]
  subst this
  exact zT R1 ⟨_, rfl, hk h1 f1⟩
theorem J0 [Gh] (l : Nm) (hl : l.length ≤ 2 ^ 28) (hk : ∀ h', Fr (fun _ => False) h h' → Q (.string (bs (rC (-1) l))) h') : aD Tryz.prog nk #[.string (bs l)] h Q := by
 apply tF
 unfold oK
 rw [bR]
 refine aJ.go (fun n st h' => ∃ (i : Nat) (out : Nm), st.2.2.2.2 = (i : Int) ∧ st.2.1 = out.length ∧ out.length ≤ i ∧ i ≤ l.length ∧ n = l.length - i ∧ Fr (fun _ => False) h h' ∧ -1 ≤ st.2.2.2.1 ∧ st.2.2.2.1 ≤ 15 ∧ out ++ rC st.2.2.2.1 (l.drop i) = rC (-1) l ∧ Row 1 bV h' st.1 st.2.2.1 out ∧ (∀ b, InA st.1 b → h.size ≤ b)) l.length
  ⟨0, [], rfl, rfl, by simp, by omega, rfl, Fr.refl _ _, by simp, by simp, rfl, Row.nil, fun b hb => (dR hb).elim⟩ ?_
 rintro n ⟨a, m, c, hg, t⟩ h1 ⟨i, out, e1, e2, hol, hi, rfl, f1, g1, g2, hout, R1, ha⟩ Kn hK
 dsimp only at e1 e2 g1 g2 hout R1 ha
 subst e1 e2
 dsimp only
 unfold ke
 refine ifD (fun e => ?_) fun e => ?_
 ·have hil : i < l.length := by omega
  have q1 := pG l[i]
  have d1 := Bp (bN l[i])
  rw [List.drop_eq_getElem_cons hil, rC] at hout
  refine ixS l i rfl hil (yP _ q1.1 q1.2 ⟨_, rfl, ?_⟩)
  rw [wr (x := (i : Int) + 1) (by omega) (by omega)]
  refine ifD (fun e3 => ?_) fun e3 => ?_
  ·rw [if_pos e3] at hout
   exact hK (l.length - (i + 1)) _ _ (by omega) ⟨i + 1, out, rfl, rfl, by omega, hil, rfl, f1, g1, g2, hout, R1, ha⟩
  rw [if_neg e3] at hout
  refine ifD (fun e4 => ?_) fun e4 => ?_
  ·rw [if_pos e4] at hout
   exact hK (l.length - (i + 1)) _ _ (by omega) ⟨i + 1, out, rfl, rfl, by omega, hil, rfl, f1, by dsimp only; omega, by dsimp only; omega, hout, R1, ha⟩
  ·rw [if_neg e4] at hout
   rw [wr (x := 16 * hg) (by omega) (by omega), wr (x := 16 * hg + oV (bN l[i])) (by omega) (by omega), wrb (by omega) (by omega)]
   refine GC R1 ha f1 (by omega) (mkB (16 * hg + oV (bN l[i]))) (yd (by omega) (by omega)) fun p' c' h2 R2 f2 hp2 => ⟨_, _, _, rfl, ?_⟩
   exact hK (l.length - (i + 1)) _ _ (by omega) ⟨i + 1, _, rfl, rfl, by rw [List.length_append, List.length_singleton]; omega, hil, rfl, f2, by simp, by simp, by rw [← hout, List.append_assoc]; rfl, R2, hp2⟩
 ·have : i = l.length := by omega
  subst this
  rw [List.drop_length] at hout
  have : out = rC (-1) l := by rw [← hout]; show out = out ++ []; rw [List.append_nil]
  subst this
  exact zT R1 ⟨_, rfl, hk h1 f1⟩
end
theorem GX [Gh] (l : Nm) (hl : l.length ≤ 2 ^ 28) {h : aA} {Q : Value → aA → Prop} (hk : ∀ h', Fr (fun _ => False) h h' → Q (.string (bs (cX l))) h') : aD Tryz.prog mp #[.string (bs l)] h Q := by
 apply rV
 unfold mN
 refine AA Tryz.underlying194 Tryz.underlying98 Tryz.underlying5 l fun p c h1 f1 hp o1 hc => ⟨_, _, _, rfl, ?_⟩
 have R : Row 1 bV h1 p c l := ⟨by rw [ut]; exact o1, hc⟩
 have z1 := f1.size
 refine aJ.go (fun n st h' => ∃ (i : Nat), st = (i : Int) ∧ i ≤ l.length ∧ n = l.length - i ∧ Fr (fun _ => False) h h' ∧ Row 1 bV h' p c (cX (l.take i) ++ l.drop i)) l.length ⟨0, rfl, by omega, rfl, f1, by simpa [cX] using R⟩ ?_
 rintro n - h2 ⟨i, rfl, hi, rfl, f2, R2⟩ Kn hK
 unfold jv
 refine ifD (fun e => ?_) fun e => ?_
 ·have hlt : i < l.length := by omega
  have ht := Jd l i hi
  have hx := pG l[i]
  obtain ⟨ad, had, ce⟩ := R2.cellsAt wE (by omega) i (by omega)
  rw [IL l i hlt] at ce
  have hnx : bN (jJ l[i]) = bN l[i] → cX (l.take i) ++ l.drop i = cX (l.take (i + 1)) ++ l.drop (i + 1) := fun hb => by
   rw [← FR l i hlt]
   have : jJ l[i] = l[i] := Ew hb
   rw [this]
   refine (List.ext_getElem (by rw [List.length_set]) fun j h1 h2 => ?_).symm
   rw [List.getElem_set]
   split
   ·rename_i hij; subst hij; exact (IL l i hlt _).symm
   ·rfl
  have hst := R2.setB (n := (i : Int)) i rfl ht.symm (by omega) (jJ l[i]) (c := bN (jJ l[i])) rfl (K := fun h3 => Kn (wrap .i64 ((i : Int) + 1)) h3) fun h3 f3 R3 => by
   rw [FR l i hlt] at R3
   rw [wr (by omega) (by omega)]
   exact hK (l.length - (i + 1)) _ _ (by omega) ⟨i + 1, rfl, hlt, rfl, f2.tr f3 fun b hb hi => by have := hp b hi; omega, R3⟩
  rw [had] at hst ⊢
  have hno : bN (jJ l[i]) = bN l[i] → Kn (wrap .i64 ((i : Int) + 1)) h2 := fun hb => by
   rw [wr (by omega) (by omega)]
   exact hK (l.length - (i + 1)) _ _ (by omega) ⟨i + 1, rfl, hlt, rfl, f2, by rw [← hnx hb]; exact R2⟩
  refine bO i rfl hlt (aS ?_)
  refine aB (n := bN l[i]) (by rw [Int.toNat_natCast]; exact ce.at0 rfl) ?_
  have hlo := wB l[i]
  unfold yh at hlo
  refine ifD (fun e3 => ifD (fun e4 => ?_) fun e4 => ?_) fun e3 => ?_
  ·rw [if_pos ⟨e3, e4⟩] at hlo
   rw [wrb (x := bN l[i] + 97) (by omega) (by omega), wrb (by omega) (by omega), show bN l[i] + 97 - 65 = bN (jJ l[i]) by omega]
   exact hst
  ·exact hno (by rw [hlo, if_neg (by omega)])
  ·exact hno (by rw [hlo, if_neg (by omega)])
 ·have hil : i = l.length := by omega
  subst hil
  rw [List.take_length, List.drop_length, List.append_nil] at R2
  have := zT R2 (K := fun v h4 => ∃ t22 : ByteArray, v = .string t22 ∧ Q (.string t22) h4) ⟨_, rfl, hk h2 f2⟩
  rw [j0] at this; exact this
end Go.Proofs.YtjmfpeiidlpngaaGreatDoor.Au
namespace Go.Proofs.YtjmfpeiidlpngaaGreatDoor.Au
set_option linter.unusedSimpArgs false
set_option linter.unusedVariables false
set_option maxRecDepth 20000
open Go
open Go.IntKind (wrap)
def AW (c : UInt8) (l : Nm) : Option Nat := l.findIdx? (· == c)
def Ex (c : UInt8) (l : Nm) : Int := match AW c l with | some i => (i : Int) | none => -1
theorem Dn (c : UInt8) (l : Nm) : (List.range l.length).find? (fun i => l.getD i 0 == c) = AW c l := by
 unfold AW
 induction l with
 | nil => rfl
 | cons x l ih =>
  rw [List.length_cons, List.range_succ_eq_map, List.find?_cons, List.findIdx?_cons]
  by_cases hx : (x == c) = true
  ·simp [hx]
  ·have hx' : (x == c) = false := by simpa using hx
   simp only [List.getD_cons_zero, hx', List.find?_map, Bool.false_eq_true, if_false]
   rw [← ih]
   congr 1
theorem Bz (c : UInt8) (l : Nm) : firstIdx (bs l) c = Ex c l := by
 unfold firstIdx Ex
 have : (fun i => (bs l)[i]! == c) = (fun i => l.getD i 0 == c) := by
  funext i
  congr 1
  have e : (bs l)[i]! = l.toArray[i]! := by
   by_cases h : i < l.length
   ·have h1 : i < (bs l).size := by rw [bR]; exact h
    rw [getElem!_pos (bs l) i h1, getElem!_pos l.toArray i (by simpa using h)]; rfl
   ·have h1 : ¬ i < (bs l).size := by rw [bR]; exact h
    rw [getElem!_neg (bs l) i h1, getElem!_neg l.toArray i (by simpa using h)]
  rw [e]; simp [List.getD_eq_getElem?_getD]; rfl
 rw [this, bR, Dn]
 cases AW c l <;> rfl
theorem Dr [Gh] (l : Nm) (c : UInt8) {h : aA} {Q : Value → aA → Prop} (hk : Q (.int .i64 (Ex c l)) h) :
  aD Tryz.prog iq #[.string (bs l), .int .u8 (bN c)] h Q := by
 rintro w rfl hs
 rw [run_callFunc_extern (fn := Tryz.f190) (e := Extern.BytealgIndexByte.indexByte) rfl (by kernel_rfl) (by kernel_rfl) (by kernel_rfl) (by kernel_rfl), run_indexByte_string]
 simp only [Result.andThen]
 have : (bN c).toNat.toUInt8 = c := by
  unfold bN
  rw [Int.toNat_natCast]
  apply UInt8.toNat_inj.1
  rw [Nat.toUInt8, UInt8.toNat_ofNat']
  have := c.toNat_lt
  omega
 rw [this, Bz]; exact ⟨hk, hs⟩
theorem xe [Gh] (l : Nm) (c : UInt8) {h : aA} {Q : Value → aA → Prop} (hk : Q (.int .i64 (Ex c l)) h) : aD Tryz.prog jf #[.string (bs l), .int .u8 (bN c)] h Q := by
 apply uR
 unfold oZ
 apply mC
 unfold jc
 exact Dr l c ⟨_, rfl, _, rfl, hk⟩
def Hk : Nm := [65, 66, 67, 68, 69, 70, 71, 72, 73, 74, 75, 76, 77, 78, 79, 80, 81, 82, 83, 84, 85, 86, 87, 88, 89, 90, 97, 98, 99, 100, 101, 102, 103, 104, 105, 106, 107, 108, 109, 110, 111, 112, 113, 114, 115, 116, 117, 118, 119, 120, 121, 122, 48, 49, 50, 51, 52, 53, 54, 55, 56, 57, 43, 47]
def vK (c : UInt8) : Int := Ex c Hk
theorem GZ {p : UInt8 → Bool} (h : ((List.range 256).all fun n => p (UInt8.ofNat n)) = true) (c : UInt8) : p c = true := by
 have := List.all_eq_true.1 h c.toNat (List.mem_range.2 c.toNat_lt)
 rwa [UInt8.ofNat_toNat] at this
theorem IA (c : UInt8) : -1 ≤ vK c ∧ vK c < 64 := of_decide_eq_true (GZ (p := fun c => decide (-1 ≤ vK c ∧ vK c < 64)) (by decide +kernel) c)
def rL (bits n : Nat) : Nm → Nm
 | [] => []
 | c :: r => if bN c = 61 then [] else if vK c < 0 then rL bits n r else
  if 2 ≤ n then mkB (((bits * 64 + (vK c).toNat) / 2 ^ (n - 2) : Nat) : Int) :: rL ((bits * 64 + (vK c).toNat) % 2 ^ (n - 2)) (n - 2) r else rL (bits * 64 + (vK c).toNat) (n + 6) r
theorem Kx (n b : Nat) (hn : n < 2 ^ 24) (hb : b < 64) :
  wrap .i64 (BitVec.toNat (BitVec.ofInt (IntKind.bits .i64) (wrap .i64 ((n : Int) * 2 ^ (min (Int.toNat (6 : Int)) (IntKind.bits .i64)))) ||| BitVec.ofInt (IntKind.bits .i64) (b : Int)) : Int) = ((n * 64 + b : Nat) : Int) := by
 have e1 : (2 : Int) ^ (min (Int.toNat (6 : Int)) (IntKind.bits .i64)) = 64 := rfl
 have e2 : (n : Int) * 64 = ((n * 64 : Nat) : Int) := by omega
 rw [e1, e2, wr (x := ((n * 64 : Nat) : Int)) (by omega) (by omega), BitVec.ofInt_natCast, BitVec.ofInt_natCast, BitVec.toNat_or, BitVec.toNat_ofNat, BitVec.toNat_ofNat]
 have e3 : n * 64 % 2 ^ (IntKind.bits .i64) = n * 64 := Nat.mod_eq_of_lt (by show _ < 2 ^ 64; omega)
 have e4 : b % 2 ^ (IntKind.bits .i64) = b := Nat.mod_eq_of_lt (by show _ < 2 ^ 64; omega)
 have e5 : (n * 64) ||| b = n * 64 + b := by
  have := Nat.two_pow_add_eq_or_of_lt (i := 6) (b := b) hb n
  rw [show 2 ^ 6 * n = n * 64 by omega] at this
  exact this.symm
 rw [e3, e4, e5, wr (by omega) (by omega)]
theorem GH (x k : Nat) (hx : x < 2 ^ 24) (hk : k ≤ 20) : wrap .i64 (BitVec.toNat (BitVec.ofInt (IntKind.bits .i64) (x : Int) &&& BitVec.ofInt (IntKind.bits .i64) (((2 ^ k - 1 : Nat)) : Int)) : Int) = ((x % 2 ^ k : Nat) : Int) := by
 have hp : 2 ^ k ≤ 2 ^ 20 := Nat.pow_le_pow_right (by omega) hk
 have hp0 : 0 < 2 ^ k := Nat.two_pow_pos k
 rw [BitVec.ofInt_natCast, BitVec.ofInt_natCast, BitVec.toNat_and, BitVec.toNat_ofNat, BitVec.toNat_ofNat]
 have e3 : x % 2 ^ (IntKind.bits .i64) = x := Nat.mod_eq_of_lt (by show _ < 2 ^ 64; omega)
 have e4 : (2 ^ k - 1) % 2 ^ (IntKind.bits .i64) = 2 ^ k - 1 := Nat.mod_eq_of_lt (by show _ < 2 ^ 64; omega)
 rw [e3, e4, Nat.and_two_pow_sub_one_eq_mod]
 have := Nat.mod_lt x hp0
 exact wr (by omega) (by omega)
theorem GT (x k : Nat) : Int.fdiv (x : Int) (((2 ^ k : Nat)) : Int) = ((x / 2 ^ k : Nat) : Int) := by
 rw [Int.fdiv_eq_ediv_of_nonneg _ (Int.natCast_nonneg _)]; exact (Int.natCast_ediv ..).symm
section
variable {h : aA} {Q : Value → aA → Prop}
theorem FF [Gh] (l : Nm) (hl : l.length ≤ 2 ^ 28) (hk : ∀ h', Fr (fun _ => False) h h' → Q (.string (bs (rL 0 0 l))) h') : aD Tryz.prog lS #[.string (bs l)] h Q := by
 apply rm
 unfold mr
 rw [bR]
 refine aJ.go (fun m st h' => ∃ (i bits n : Nat) (out : Nm), st.2.2.2.2.2 = (i : Int) ∧ st.2.2.2.1 = (bits : Int) ∧ st.2.2.2.2.1 = (n : Int) ∧ st.2.1 = out.length ∧ out.length ≤ i ∧ i ≤ l.length ∧ m = l.length - i ∧ (n = 0 ∨ n = 2 ∨ n = 4 ∨ n = 6) ∧ bits < 2 ^ n ∧ Fr (fun _ => False) h h' ∧ out ++ rL bits n (l.drop i) = rL 0 0 l ∧ Row 1 bV h' st.1 st.2.2.1 out ∧ (∀ b, InA st.1 b → h.size ≤ b)) l.length
  ⟨0, 0, 0, [], rfl, rfl, rfl, rfl, by simp, by omega, rfl, .inl rfl, by decide, Fr.refl _ _, rfl, Row.nil, fun b hb => (dR hb).elim⟩ ?_
 rintro m ⟨a, on, c, bt, nn', t⟩ h1 ⟨i, bits, n, out, e1, e2, e3, e4, hol, hi, rfl, hn, hbits, f1, hout, R1, ha⟩ Kn hK
 dsimp only at e1 e2 e3 e4 R1 ha
 subst e1 e2 e3 e4
 dsimp only
 unfold jh
 refine ifD (fun e => ?_) fun e => ?_
 ·have hil : i < l.length := by omega
  rw [List.drop_eq_getElem_cons hil, rL] at hout
  refine ixS l i rfl hil (ifE (fun e5 => ?_) fun e5 => ?_)
  ·rw [if_pos e5, List.append_nil] at hout
   subst hout
   exact zT R1 ⟨_, rfl, hk h1 f1⟩
  rw [if_neg e5] at hout
  have hv := IA l[i]
  refine ixS l i rfl hil ?_
  refine xe Hk l[i] ⟨vK l[i], rfl, ?_⟩
  rw [wr (x := (i : Int) + 1) (by omega) (by omega)]
  refine ifD (fun e6 => ?_) fun e6 => ?_
  ·rw [if_pos e6] at hout
   exact hK (l.length - (i + 1)) _ _ (by omega) ⟨i + 1, bits, n, out, rfl, rfl, rfl, rfl, by omega, hil, rfl, hn, hbits, f1, hout, R1, ha⟩
  rw [if_neg e6] at hout
  obtain ⟨v, hve⟩ : ∃ v : Nat, vK l[i] = v := ⟨(vK l[i]).toNat, by omega⟩
  rw [hve] at hout hv ⊢
  rw [Int.toNat_natCast] at hout
  have hb64 : bits < 64 := by rcases hn with rfl | rfl | rfl | rfl <;> simp at hbits <;> omega
  rw [Kx bits v (by omega) (by omega), wr (x := (n : Int) + 6) (by omega) (by omega)]
  generalize hX : bits * 64 + v = X at *
  refine ⟨by decide, ifD (fun e7 => ?_) fun e7 => ?_⟩
  ·have hn2 : 2 ≤ n := by omega
   rw [if_pos hn2] at hout
   rw [wr (x := (n : Int) + 6 - 8) (by omega) (by omega)]
   have eP : (2 : Int) ^ (min (Int.toNat ((n : Int) + 6 - 8)) (IntKind.bits .i64)) = ((2 ^ (n - 2) : Nat) : Int) := by
    rcases hn with rfl | rfl | rfl | rfl
    ·omega
    ·rfl
    ·rfl
    ·rfl
   have hP : 2 ^ (n - 2) ≤ 16 ∧ X / 2 ^ (n - 2) < 256 := by
    rcases hn with rfl | rfl | rfl | rfl
    ·omega
    ·simp at hbits ⊢; omega
    ·simp at hbits ⊢; omega
    ·simp at hbits ⊢; omega
   have hX2 : X < 4096 := by omega
   have hp0 : 0 < 2 ^ (n - 2) := Nat.two_pow_pos _
   have hand := GH X (n - 2) (by omega) (by omega)
   have hml := Nat.mod_lt X hp0
   have hfd := GT X (n - 2)
   rw [eP, hfd]
   generalize hBd : X / 2 ^ (n - 2) = B at *
   generalize hMd : X % 2 ^ (n - 2) = M at *
   have hbn : M < 2 ^ (n - 2) := hml
   generalize hPd : 2 ^ (n - 2) = P at *
   rw [wrb (by omega) (by omega)]
   refine ⟨by omega, GC R1 ha f1 (by omega) (mkB ((B : Nat) : Int)) (yd (by omega) (by omega)) fun p' c' h2 R2 f2 hp2 => ⟨_, _, _, rfl, by omega, ?_⟩⟩
   rw [Int.one_mul, wr (x := ((P : Nat) : Int)) (by omega) (by omega)]
   rw [show ((P : Nat) : Int) - 1 = ((P - 1 : Nat) : Int) by omega, wr (x := ((P - 1 : Nat) : Int)) (by omega) (by omega), hand]
   refine hK (l.length - (i + 1)) _ _ (by omega) ⟨i + 1, M, n - 2, _, rfl, rfl, ?_, rfl, by rw [List.length_append, List.length_singleton]; omega, hil, rfl, by omega, by rw [hPd]; exact hbn, f2, by rw [← hout, List.append_assoc]; rfl, R2, hp2⟩
   dsimp only; omega
  ·have hn0 : n = 0 := by omega
   subst hn0
   rw [if_neg (by omega)] at hout
   refine hK (l.length - (i + 1)) _ _ (by omega) ⟨i + 1, X, 6, out, rfl, rfl, rfl, rfl, by omega, hil, rfl, .inr (.inr (.inr rfl)), ?_, f1, hout, R1, ha⟩
   simp at hbits ⊢; omega
 ·have : i = l.length := by omega
  subst this
  rw [List.drop_length] at hout
  have : out = rL 0 0 l := by rw [← hout]; show out = out ++ []; rw [List.append_nil]
  subst this
  exact zT R1 ⟨_, rfl, hk h1 f1⟩
end
end Go.Proofs.YtjmfpeiidlpngaaGreatDoor.Au
namespace Go.Proofs
open Go.Shelf
shelf_lay Lays.n221 Nm 221 at Tryz as Tryz.lays221
shelf_lay Lays.n156 Nm 156 at Tryz as Tryz.lays156
theorem Tryz.extra156 : Builder.Extra Tryz.prog Tryz.lays156_ren where
 sizeBuilder := by kernel_rfl
 liesBuilder := by kernel_rfl
 t5 := Tryz.underlying5
 a5 := Tryz.isAgg5
 z5 := Tryz.sizeOf5
 v5 := Tryz.zeroValue5
 infoByte := by kernel_rfl
 cellsByte := by kernel_rfl
 sizeByte := by kernel_rfl
 neB5 := by decide
end Go.Proofs
namespace Go.Proofs.YtjmfpeiidlpngaaGreatDoor.Au
set_option linter.unusedSimpArgs false
set_option linter.unusedVariables false
set_option maxRecDepth 20000
open Go Go.RowKit
open Go.IntKind (wrap)
def aP : Nm → List Nm
 | [] => [[]]
 | c :: l => if c = 47 then [] :: aP l else match aP l with
  | [] => [[c]]
  | x :: xs => (c :: x) :: xs
theorem iO : ∀ l, aP l ≠ []
 | [] => by unfold aP; simp
 | c :: l => by
  unfold aP; split
  ·simp
  ·split <;> simp
theorem xX (b c : UInt8) (l : Nm) : Lib.index (b :: l) [c] = if b = c then 0 else if Lib.index l [c] = -1 then -1 else Lib.index l [c] + 1 := by
 rw [Lib.index_one, Lib.index_one]
 show (if _ then _ else _) = _
 unfold Lib.indexByte
 first
  | rfl
  | (by_cases h : b = c <;> simp [h])
theorem zM : ∀ (l : Nm), Lib.splitK [47] 0 (l.count 47) l = aP l
 | [] => rfl
 | c :: l => by
  have ih := zM l
  unfold aP
  by_cases h : c = 47
  ·subst h
   rw [if_pos rfl, List.count_cons_self, ← ih]
   show (if _ then _ else _) = _
   have e : Lib.index (47 :: l) [47] = 0 := by rw [xX, if_pos rfl]
   rw [if_neg (by rw [e]; decide), e]
   rfl
  ·rw [if_neg h, List.count_cons_of_ne (by simpa using h), ← ih]
   cases hk : l.count 47 with
   | zero => rfl
   | succ k =>
    unfold Lib.splitK
    have e := xX c 47 l
    rw [if_neg h] at e
    have hge := Lib.index_ge l [47]
    by_cases hm : Lib.index l [47] = -1
    ·rw [if_pos hm] at e
     rw [if_pos (by rw [e]; rfl), if_pos (by rw [hm]; rfl)]
    ·rw [if_neg hm] at e
     obtain ⟨j, hj⟩ : ∃ j : Nat, Lib.index l [47] = j := ⟨(Lib.index l [47]).toNat, by omega⟩
     rw [if_neg (by rw [e, hj, beq_iff_eq]; omega), if_neg (by rw [hj, beq_iff_eq]; omega), e, hj]
     have e1 : (((j : Int) + 1).toNat + 0) = j + 1 := by omega
     have e2 : (((j : Int) + 1).toNat + ([47] : Nm).length) = (j + 1) + 1 := by simp
     have e3 : ((j : Int).toNat + 0) = j := by omega
     have e4 : ((j : Int).toNat + ([47] : Nm).length) = j + 1 := by simp
     rw [e1, e2, e3, e4]
     rfl
def xw (s : Nm) : List Value := [.string (bs s)]
theorem qg (s : Nm) : (xw s).length = 1 := rfl
theorem CD [Gh] {P : Program} {f : FuncId} {args : Array Value} {h : aA} {v : Value} {o : Obj} (hc : ∀ args w, (callFunc f args).run P w = .ok (.enter f args) w)
  (hs : ∀ w : World, w.heap = h → Calls P f args w fun e w' => e = .returned v ∧ w' = w.alloc o) {K : Value → aA → Prop} (hk : K v (h.push o)) : aD P f args h K := by
 intro w hw hsm
 rw [hc]
 simp only
 refine (hs w hw).mono ?_
 rintro e w' ⟨rfl, rfl⟩
 refine ⟨_, rfl, ?_, ⟨hsm.1, hsm.2.1, hsm.2.2⟩⟩
 have : (w.alloc o).heap = h.push o := by rw [← hw]; rfl
 rw [this]; exact hk
theorem GW (l : Nm) : l.count 47 ≤ l.length := List.count_le_length
theorem Ia [Gh] (l : Nm) (hl : l.length ≤ 2 ^ 30) {h : aA} {Q : Value → aA → Prop}
  (hk : ∀ p cap h', Fr (fun _ => False) h h' → Row 1 xw h' p cap (aP l) → (∀ b, InA p b → h.size ≤ b) → Q (.slice p (aP l).length cap) h') :
  aD Tryz.prog nW #[.string (bs l), .string (⟨#[47]⟩ : ByteArray)] h Q := by
 apply xp
 unfold tf
 have hcb : Lib.countB (bs l) ⟨#[47]⟩ = l.count 47 := by
  show Lib.count (bs l).data.toList [47] = _
  rw [wc, Lib.count_one]
 have hcl := GW l
 have hlen := Lib.splitB_all (⟨#[47]⟩ : ByteArray) (by decide) 0 (l.count 47) (bs l) hcb
 have hdata := Lib.splitB_data (⟨#[47]⟩ : ByteArray) 0 (l.count 47) (bs l)
 have e47 : (⟨#[47]⟩ : ByteArray).data.toList = [47] := rfl
 rw [wc, e47, zM] at hdata
 have hbs : Lib.splitB (⟨#[47]⟩ : ByteArray) 0 (l.count 47) (bs l) = (aP l).map bs := by
  rw [← hdata, List.map_map]
  conv => lhs; rw [← List.map_id (Lib.splitB (⟨#[47]⟩ : ByteArray) 0 (l.count 47) (bs l))]
  apply List.map_congr_left
  intro x _
  show x = bs x.data.toList
  simp [bs]
 have hl2 : (aP l).length = l.count 47 + 1 := by rw [← hlen, hbs, List.length_map]
 refine CD (v := .slice (some ⟨h.size, 0, none⟩) (aP l).length (aP l).length) (o := .cells ((aP l).flatMap xw).toArray dO) (fun _ _ => rfl) (fun w hw => ?_) ?_
 ·have c := Any.strings_genSplit_core Tryz.lays221 (by kernel_rfl) (bs l) (⟨#[47]⟩ : ByteArray) 0 (-1) (l.count 47 + 1) w (by rw [bR]; omega) (by decide) (Nat.zero_le _)
   (fun x c hx => (Any.strings_Index_one { Tryz.lays221 with } x 47 _).mono fun e w' ⟨h1, h2⟩ => ⟨by rw [h1]; show _ = Ending.returned (.int .i64 (Lib.index x.data.toList [47])); rw [Lib.index_one], h2⟩)
   ((Any.strings_Count_one { Tryz.lays221 with } (bs l) 47 w).mono fun e w' ⟨h1, h2⟩ => ⟨by rw [h1, hcb, wc]; rfl, h2⟩)
   (by decide) (by decide) (by rw [hcb, if_pos (by decide), bR]; omega)
  rw [Nat.add_sub_cancel, hbs, List.length_map, hw] at c
  refine c.mono fun e w' ⟨h1, h2⟩ => ⟨by rw [h1, ← hl2], ?_⟩
  rw [h2, ← hl2]
  have := Lib.cellsOf_full ((aP l).map bs)
  rw [List.length_map] at this
  rw [this]
  have e : ((aP l).map bs).map Value.string = (aP l).flatMap xw := by
   generalize aP l = m
   induction m with
   | nil => rfl
   | cons a m ih => rw [List.map_cons, List.map_cons, List.flatMap_cons, ih]; rfl
  rw [e]
  rfl
 ·refine ⟨_, _, _, rfl, ?_⟩
  have o : Own (h.push (.cells ((aP l).flatMap xw).toArray dO)) ⟨h.size, 0, none⟩ ((aP l).flatMap xw) dO := ⟨rfl, rfl, cW⟩
  refine hk _ _ _ (Fr.push _ _ _) (Row.of_own qg o) fun b hb => ?_
  obtain ⟨ad, h1, rfl⟩ := hb
  cases h1; exact Nat.le_refl _
theorem Bt [Gh] {P : Program} {f : FuncId} {args : Array Value} {h : aA} {v : Value} {B : Nat} {R : World → Prop} (hc : ∀ args w, (callFunc f args).run P w = .ok (.enter f args) w)
  (hs : ∀ w : World, w.heap = h → Calls P f args w fun e w' => e = .returned v ∧ Below B w w' ∧ R w') {K : Value → aA → Prop} (hk : ∀ w', Fr (fun x => B ≤ x) h w'.heap → R w' → K v w'.heap) : aD P f args h K := by
 intro w hw hsm
 rw [hc]
 simp only
 refine (hs w hw).mono ?_
 rintro e w' ⟨rfl, hb, hr⟩
 subst hw
 exact ⟨_, rfl, hk w' ⟨hb.size, fun b _ hn => hb.block b (Nat.lt_of_not_le hn)⟩ hr, hb.os.trans hsm.1, hb.tape.trans hsm.2.1, hb.output.trans hsm.2.2⟩
theorem Iy [Gh] (l : Nm) {h : aA} {Q : Value → aA → Prop} (hk : Q (.bool (decide (l.take 1 = [47]))) h) : aD Tryz.prog ei #[.string (bs l), .string (⟨#[47]⟩ : ByteArray)] h Q := by
 apply mT
 unfold iZ
 have e1 : (((⟨#[47]⟩ : ByteArray).size : Nat) : Int) = ((1 : Nat) : Int) := rfl
 rw [e1, bR]
 refine ifD (fun e => ?_) fun e => ?_
 ·refine slT l 1 rfl (by omega) ?_
  have e2 : (⟨#[47]⟩ : ByteArray) = bs [47] := rfl
  rw [e2, lj, lj]
  refine Qeq hk ?_
  congr 1
  rw [Bool.eq_iff_iff, decide_eq_true_iff, beq_iff_eq]
 ·have : l = [] := List.length_eq_zero_iff.1 (by omega)
  subst this
  exact hk
theorem Cd [Gh] (l : Nm) {h : aA} {Q : Value → aA → Prop} (hk : Q (.bool (decide (l.take 1 = [47]))) h) : aD Tryz.prog kG #[.string (bs l), .string (⟨#[47]⟩ : ByteArray)] h Q := by
 apply uK
 unfold pb
 exact Iy l ⟨_, rfl, hk⟩
theorem JN [Gh] {h : aA} {p : Option Addr} {c : Nat} {ts : List Nm} (R : Row 1 xw h p c ts) (h0 : ts ≠ []) (hl : ts.length ≤ 2 ^ 30) (hj : (Lib.join ts [47]).length ≤ 2 ^ 40) {Q : Value → aA → Prop} (hk : ∀ h', Fr (fun _ => False) h h' → Q (.string (bs (Lib.join ts [47]))) h') :
  aD Tryz.prog lT #[.slice p ts.length c, .string (⟨#[47]⟩ : ByteArray)] h Q := by
 obtain ⟨ad, hp, _⟩ := R.cellsAt qg (by omega) 0 (List.length_pos_iff.2 h0)
 subst hp
 have o := R.own
 obtain ⟨b, off, sp⟩ := ad
 obtain ⟨h1, h2, _⟩ := o
 simp only at h1 h2
 subst h1 h2
 have hlt : b < h.size := R.lt ⟨_, rfl, rfl⟩
 have hd : (ts.map bs).map (fun x : ByteArray => x.data.toList) = ts := by
  rw [List.map_map]
  conv => rhs; rw [← List.map_id ts]
  exact List.map_congr_left fun x _ => wc x
 have e47 : (⟨#[47]⟩ : ByteArray).data.toList = [47] := rfl
 have hlen : (ts.map bs).length = ts.length := List.length_map ..
 refine Bt (R := fun _ => True) (B := h.size) (v := .string (bs (Lib.join ts [47]))) (fun _ _ => rfl) (fun w hw => ?_) fun w' f _ => hk _ (f.mono' fun b hb h => by omega)
 have := Any.strings_Join Tryz.lays156 Tryz.extra156 b 0 c (ts.map bs) (⟨#[47]⟩ : ByteArray) w (fun j x hx => by
  rw [List.getElem?_map, Option.map_eq_some_iff] at hx
  obtain ⟨y, hy, rfl⟩ := hx
  obtain ⟨hjl, rfl⟩ := List.getElem?_eq_some_iff.1 hy
  obtain ⟨ad, he, cc⟩ := R.cellsAt qg (by omega) j hjl
  cases he
  have c0 : aW h (Addr.add ⟨b, 0, none⟩ (j * 1)) [.string (bs ts[j])] := cc
  have := c0.at0 rfl
  rw [gG, Nat.mul_one] at this
  show hcell w.heap ⟨b, 0 + j, none⟩ = _
  rw [hw]; exact this) (by rw [hw]; exact hlt) (by rw [hlen]; omega) (by rw [hlen]; exact R.le) (by rw [hd, e47]; exact Nat.le_trans hj (by decide))
 rw [hlen, hd, e47] at this
 exact this.mono fun e w' ⟨h1, h2⟩ => ⟨h1, by rw [hw] at h2; exact h2, trivial⟩
end Go.Proofs.YtjmfpeiidlpngaaGreatDoor.Au
namespace Go.Proofs.YtjmfpeiidlpngaaGreatDoor.Au
set_option linter.unusedSimpArgs false
set_option linter.unusedVariables false
set_option maxRecDepth 20000
open Go
open Go.IntKind (wrap)
def mV (kept : List Nm) (s : Nm) : List Nm := if s = [] ∨ s = [46] then kept else if s = [46, 46] then kept.dropLast else kept ++ [s]
def cL (ss : List Nm) : List Nm := ss.foldl mV []
def lW (s : Nm) : Bool := decide (s = []) || decide (s = [46]) || decide (s = [46, 46])
def sU (p : Nm) : Nm :=
 if cL (aP p) = [] then [47] else
  (if p.take 1 = [47] then [47] else []) ++ Lib.join (cL (aP p)) [47] ++ (if lW ((aP p).getLast (iO p)) = true then [47] else [])
def lG (l : Nm) : Nat := (AW 63 l).getD l.length
def As (l : Nm) : Nm := sU (l.take (lG l)) ++ l.drop (lG l)
theorem CQ (l : Nm) : lG l ≤ l.length := by
 unfold lG
 cases h : AW 63 l with
 | none => exact Nat.le_refl _
 | some i =>
  unfold AW at h
  rw [List.findIdx?_eq_some_iff_getElem] at h
  exact Nat.le_of_lt h.1
theorem _root_.Go.Proofs.YtjmfpeiidlpngaaGreatDoor.Row.pre {α : Type} {sz : Nat} {vals : α → List Value} {h : aA} {p : Option Addr} {cap : Nat} {L : List α} (R : Row sz vals h p cap L) (hv : ∀ x, (vals x).length = sz) (k : Nat) (hk : k ≤ L.length) : Row sz vals h p cap (L.take k) := by
 refine ⟨?_, by rw [List.length_take]; have := R.le; omega⟩
 have o := R.own
 cases p with
 | none =>
  have h1 := o.1
  rw [List.flatMap_eq_nil_iff] at h1
  exact ⟨List.flatMap_eq_nil_iff.2 fun x hx => h1 x (List.mem_of_mem_take hx), o.2⟩
 | some ad =>
  obtain ⟨h1, h2, ds, t, fr, hfr, hg, hc, hl, hcs⟩ := o
  have e : (L.take k).flatMap vals = (L.flatMap vals).take (k * sz) := by
   conv => rhs; rw [← List.take_append_drop k L, List.flatMap_append]
   rw [List.take_left' (by rw [lN hv, List.length_take, Nat.min_eq_left hk])]
  rw [e]
  refine ⟨h1, h2, ds, t, fr, hfr, hg, hc, by rw [List.length_take]; omega, fun i hi => ?_⟩
  rw [List.length_take] at hi
  rw [List.getElem_take]; exact hcs i (by omega)
theorem Jo : gM Tryz.prog kU dO Tryz.t9 (.string (bs [])) := ⟨Tryz.underlying28, by kernel_rfl, by kernel_rfl, by kernel_rfl, by decide⟩
def cI (ts : List Nm) : Nat := (ts.map (fun t => t.length + 1)).sum
theorem ub (ts : List Nm) (x : Nm) : cI (ts ++ [x]) = cI ts + x.length + 1 := by unfold cI; simp; omega
theorem xj (ts : List Nm) : cI ts.dropLast ≤ cI ts := by
 rcases List.eq_nil_or_concat ts with h | ⟨a, b, h⟩
 ·subst h; exact Nat.le_refl _
 ·rw [List.concat_eq_append] at h
  subst h
  rw [List.dropLast_concat, ub]; omega
theorem zG (k : List Nm) (s : Nm) : cI (mV k s) ≤ cI k + s.length + 1 := by
 unfold mV
 split
 ·omega
 ·split
  ·have := xj k; omega
  ·rw [ub]; omega
theorem Cq (ts : List Nm) : (Lib.join ts [47]).length ≤ cI ts := by
 cases ts with
 | nil => rw [Lib.join_nil]; exact Nat.zero_le _
 | cons a r =>
  rw [Lib.join_cons]
  unfold Lib.joinTail cI
  rw [List.length_append, List.length_flatten, List.map_map, List.map_cons, List.sum_cons]
  have : (r.map (List.length ∘ fun x => [47] ++ x)).sum = (r.map fun t => t.length + 1).sum := by
   have hf : (List.length ∘ fun x : Nm => [47] ++ x) = fun t => t.length + 1 := by funext x; show ([47] ++ x : Nm).length = _; simp
   rw [hf]
  rw [this]; omega
theorem uC : ∀ l : Nm, cI (aP l) ≤ l.length + 1
 | [] => by unfold aP cI; simp
 | c :: l => by
  have ih := uC l
  have hne := iO l
  unfold aP
  split
  ·unfold cI at ih ⊢; simp at ih ⊢; omega
  ·cases h : aP l with
   | nil => exact absurd h hne
   | cons x xs => rw [h] at ih; unfold cI at ih ⊢; simp at ih ⊢; omega
theorem tT : ∀ (ss : List Nm) (k : List Nm), cI (ss.foldl mV k) ≤ cI k + cI ss
 | [], k => by simp [cI]
 | s :: ss, k => by
  have h1 := tT ss (mV k s)
  have h2 := zG k s
  rw [List.foldl_cons]
  have : cI (s :: ss) = s.length + 1 + cI ss := by unfold cI; simp
  omega
theorem AZ (ts : List Nm) : ts.length ≤ cI ts := by
 unfold cI
 induction ts with
 | nil => simp
 | cons a r ih => rw [List.length_cons, List.map_cons, List.sum_cons]; omega
theorem DR : ∀ (ss : List Nm) (k : List Nm), (∀ x ∈ k, x ≠ []) → ∀ x ∈ ss.foldl mV k, x ≠ []
 | [], k, h => h
 | s :: ss, k, h => by
  rw [List.foldl_cons]
  refine DR ss (mV k s) fun x hx => ?_
  unfold mV at hx
  split at hx
  ·exact h x hx
  ·split at hx
   ·exact h x (List.dropLast_subset _ hx)
   ·rename_i h1 h2
    rcases List.mem_append.1 hx with hx | hx
    ·exact h x hx
    ·rw [List.mem_singleton.1 hx]; exact fun e => h1 (.inl e)
theorem HQ (ss : List Nm) (h : cL ss ≠ []) : Lib.join (cL ss) [47] ≠ [] := by
 have hk := DR ss [] (by simp)
 unfold cL at *
 cases hh : ss.foldl mV [] with
 | nil => exact absurd hh h
 | cons a r =>
  rw [hh] at hk
  rw [Lib.join_cons]
  intro e
  exact hk a List.mem_cons_self (List.append_eq_nil_iff.1 e).1
theorem yT (ss : List Nm) (i : Nat) (hi : i < ss.length) : cL (ss.take (i + 1)) = mV (cL (ss.take i)) ss[i] := by
 unfold cL
 rw [show ss.take (i + 1) = ss.take i ++ [ss[i]] by rw [List.take_append_getElem], List.foldl_append]; rfl
section
variable {h : aA} {Q : Value → aA → Prop}
theorem J2 [Gh] {h0 h : aA} {p : Option Addr} {cap : Nat} {L : List Nm} (R : Row 1 xw h p cap L) (hp : ∀ x, InA p x → h0.size ≤ x) (f : Fr (fun _ => False) h0 h) (hl : L.length ≤ 2 ^ 29) (b : Nm) {K : Value → aA → Prop}
  (hk : ∀ p' cap' h', Row 1 xw h' p' cap' (L ++ [b]) → Fr (fun _ => False) h0 h' → (∀ x, InA p' x → h0.size ≤ x) → K (.slice p' (L ++ [b]).length cap') h') :
  alV h (.cells #[.string (bs b)] dO) fun t h2 => dN Tryz.prog .append #[kU, kU] kU #[false, false] #[.slice p L.length cap, .slice (some t) 1 1] h2 K := by
 refine aZ (vs := xw b) fun t h2 f2 e2 o2 => ?_
 have z := f.size
 have z2 := f2.size
 refine (R.fr0 f2).app Jo Tryz.underlying28 (by intro k e; cases e) (by kernel_rfl) (by decide +kernel) qg (fun _ => rfl) o2 1 hl fun p' c' h3 R3 f3 hn3 => ?_
 refine hk p' c' h3 R3 ((f.trans f2).tr f3 fun x hx hh => by have := hp x hh; omega) fun x hx => ?_
 rcases hn3 x hx with h | h
 ·exact hp x h
 ·omega
theorem Ig [Gh] {p : Option Addr} {c : Nat} (hk : Q (.string (bs [])) h) : aD Tryz.prog lT #[.slice p 0 c, .string (⟨#[47]⟩ : ByteArray)] h Q := by
 apply yG
 unfold tK
 rw [if_pos (by decide)]; exact hk
theorem Bq : IntKind.max .i64 = 9223372036854775807 := by decide
theorem DQ [Gh] (q : Nm) (l : Nm) (hl : l.length ≤ 2 ^ 28) (hq : q.length ≤ 2 ^ 28) (hk : ∀ h', Fr (fun _ => False) h h' → Q (.string (bs (sU l ++ q))) h') : eH (bs l) (bs q) Q h := by
 unfold eH
 refine Ia l (by omega) fun sp sc h1 f1 Rs hsp => ⟨_, _, _, rfl, ?_⟩
 have hne := iO l
 have hsa := uC l
 have hsl := AZ (aP l)
 refine aJ.go (fun n st h' => ∃ (i : Nat), st.2.2.2 = (i : Int) ∧ st.2.1 = (cL ((aP l).take i)).length ∧ i ≤ (aP l).length ∧ n = (aP l).length - i ∧ Fr (fun _ => False) h1 h' ∧ Row 1 xw h' st.1 st.2.2.1 (cL ((aP l).take i)) ∧ (∀ b, InA st.1 b → h1.size ≤ b)) (aP l).length
  ⟨0, rfl, rfl, Nat.zero_le _, rfl, Fr.refl _ _, Row.nil, fun b hb => (dR hb).elim⟩ ?_
 rintro n ⟨a, m, c, t⟩ h2 ⟨i, e1, e2, hi, rfl, f2, R2, ha⟩ Kn hK
 dsimp only at e1 e2 R2 ha
 subst e1 e2
 dsimp only
 unfold jK
 have hfa := tT ((aP l).take i) []
 have hkl : (cL ((aP l).take i)).length ≤ 2 ^ 29 := by
  have h1 := AZ (cL ((aP l).take i))
  have h2 : cI ((aP l).take i) ≤ cI (aP l) := by
   conv => rhs; rw [← List.take_append_drop i (aP l)]
   unfold cI; rw [List.map_append, List.sum_append]; omega
  have h3 : cI [] = 0 := rfl
  unfold cL at *
  omega
 refine ifD (fun e => ?_) fun e => ?_
 ·have hil : i < (aP l).length := by omega
  have hst := yT (aP l) i hil
  refine (Rs.fr0 f2).idx qg (by decide) i rfl hil fun ad ci => ?_
  rw [Int.toNat_natCast]
  refine bH (ci.at0 rfl) ?_
  have go : ∀ (p' : Option Addr) (c' : Nat) (h3 : aA), Row 1 xw h3 p' c' (cL ((aP l).take (i + 1))) → Fr (fun _ => False) h1 h3 → (∀ x, InA p' x → h1.size ≤ x) → Kn (p', (cL ((aP l).take (i + 1))).length, c', wrap .i64 ((i : Int) + 1)) h3 := fun p' c' h3 R3 f3 hp3 => by
   rw [wr (by omega) (by omega)]
   exact hK ((aP l).length - (i + 1)) _ _ (by omega) ⟨i + 1, rfl, rfl, hil, rfl, f3, R3, hp3⟩
  generalize (aP l)[i] = s at *
  have skip : s = [] ∨ s = [46] → Kn (a, (cL ((aP l).take i)).length, c, wrap .i64 ((i : Int) + 1)) h2 := fun hs => by
   have e : cL ((aP l).take (i + 1)) = cL ((aP l).take i) := by rw [hst]; unfold mV; rw [if_pos hs]
   have := go a c h2 (by rw [e]; exact R2) f2 ha
   rw [e] at this; exact this
  refine Bw (fun e3 => ?_) fun e3 => ?_
  ·rw [if_pos (by rw [e3]; show ((bs []).toList == (bs []).toList) = true; rw [lj]; rfl)]; exact skip (.inl e3)
  refine ifS (m := [46]) (fun e4 => skip (.inr e4)) fun e4 => ?_
  unfold gY
  have hn : ¬ (s = [] ∨ s = [46]) := fun hh => hh.elim e3 e4
  refine ifS (m := [46, 46]) (fun e5 => ?_) fun e5 => ?_
  ·have ek : cL ((aP l).take (i + 1)) = (cL ((aP l).take i)).dropLast := by rw [hst]; unfold mV; rw [if_neg hn, if_pos e5]
   have el : (if (0 : Int) > (wrap .i64 ((((cL ((aP l).take i)).length : Nat) : Int) - 1)) then (0 : Int) else (wrap .i64 ((((cL ((aP l).take i)).length : Nat) : Int) - 1))) = (((cL ((aP l).take i)).length - 1 : Nat) : Int) := by
    rw [wr (by omega) (by omega)]; split <;> omega
   rw [el]
   refine ⟨by omega, by have := R2.le; omega, ?_⟩
   rw [Int.toNat_natCast]
   have R3 := R2.pre qg ((cL ((aP l).take i)).length - 1) (by omega)
   rw [← List.dropLast_eq_take] at R3
   have := go a c h2 (by rw [ek]; exact R3) f2 ha
   rw [ek, List.length_dropLast] at this; exact this
  ·have ek : cL ((aP l).take (i + 1)) = cL ((aP l).take i) ++ [s] := by rw [hst]; unfold mV; rw [if_neg hn, if_neg e5]
   refine J2 R2 ha f2 hkl s fun p' c' h3 R3 f3 hp3 => ⟨_, _, _, rfl, ?_⟩
   rw [← ek] at R3 ⊢
   exact go p' c' h3 R3 f3 hp3
 ·have : i = (aP l).length := by omega
  subst this
  rw [List.take_length] at R2 hkl ⊢
  unfold jT
  have f02 := f1.trans f2
  unfold sU at hk
  have hja := Cq (cL (aP l))
  have hfa2 := tT (aP l) []
  have h3 : cI [] = 0 := rfl
  have hkeep : cI (cL (aP l)) ≤ 2 ^ 29 := by unfold cL; omega
  have hlast : (aP l).length - 1 < (aP l).length := by have := List.length_pos_iff.2 hne; omega
  have b4 : ∀ (o : Nm), o.length ≤ 1 → o = (if l.take 1 = [47] then [47] else []) → eQ (bs q) a (cL (aP l)).length c sp (aP l).length sc (bs o) Q h2 := fun o ho1 ho => by
   unfold eQ
   rw [← ho] at hk
   have b6 : ∀ (x : Nm) (h4 : aA), x.length ≤ 2 ^ 30 → Q (.string (bs (x ++ q))) h4 → eE (bs q) (bs x) Q h4 := fun x h4 hx hq' => by
    unfold eE
    rw [wP, bR, bR, Bq]
    exact ⟨by omega, hq'⟩
   have fin : ∀ (h4 : aA), Fr (fun _ => False) h2 h4 → bQ (wrap .i64 ((((aP l).length : Nat) : Int) - 1)) (aP l).length (nn sp fun t58 => ldS h4 (Addr.add t58 (((wrap .i64 ((((aP l).length : Nat) : Int) - 1))).toNat * 1)) fun t59 => if (decide ((((cL (aP l)).length : Nat) : Int) > 0)) = true then (if (t59.toList == (⟨#[]⟩ : ByteArray).toList) = true then ((((bs o ++ bs (Lib.join (cL (aP l)) [47])).size + (⟨#[47]⟩ : ByteArray).size : Nat) : Int) ≤ IntKind.max .i64 ∧ aY (bs q) ((bs o ++ bs (Lib.join (cL (aP l)) [47])) ++ (⟨#[47]⟩ : ByteArray)) Q h4) else (if (t59.toList == (⟨#[46]⟩ : ByteArray).toList) = true then ((((bs o ++ bs (Lib.join (cL (aP l)) [47])).size + (⟨#[47]⟩ : ByteArray).size : Nat) : Int) ≤ IntKind.max .i64 ∧ aY (bs q) ((bs o ++ bs (Lib.join (cL (aP l)) [47])) ++ (⟨#[47]⟩ : ByteArray)) Q h4) else (if (t59.toList == (⟨#[46, 46]⟩ : ByteArray).toList) = true then ((((bs o ++ bs (Lib.join (cL (aP l)) [47])).size + (⟨#[47]⟩ : ByteArray).size : Nat) : Int) ≤ IntKind.max .i64 ∧ aY (bs q) ((bs o ++ bs (Lib.join (cL (aP l)) [47])) ++ (⟨#[47]⟩ : ByteArray)) Q h4) else (aY (bs q) (bs o ++ bs (Lib.join (cL (aP l)) [47])) Q h4)))) else (aY (bs q) (bs o ++ bs (Lib.join (cL (aP l)) [47])) Q h4)) := fun h4 f4 => by
    have f04 := f02.trans f4
    have hk := hk h4 f04
    rw [wr (by omega) (by omega), show (((aP l).length : Nat) : Int) - 1 = (((aP l).length - 1 : Nat) : Int) by omega]
    refine ((Rs.fr0 f2).fr0 f4).idx qg (by decide) ((aP l).length - 1) rfl hlast fun ad ci => ?_
    rw [Int.toNat_natCast]
    refine bH (ci.at0 rfl) ?_
    have egl : (aP l).getLast (iO l) = (aP l)[(aP l).length - 1]'hlast := List.getLast_eq_getElem _
    rw [egl] at hk
    generalize (aP l)[(aP l).length - 1]'hlast = s at *
    have e47 : (⟨#[47]⟩ : ByteArray) = bs [47] := rfl
    rw [e47, wP, wP, bR, bR, Bq, List.length_append]
    have hlen47 : ([47] : Nm).length = 1 := rfl
    refine ifD (fun e6 => ?_) fun e6 => ?_
    ·have hkn : cL (aP l) ≠ [] := fun h => by rw [h] at e6; simp at e6
     rw [if_neg hkn] at hk
     have b5 : ∀ x : Nm, x ≠ [] → x.length ≤ 2 ^ 30 → Q (.string (bs (x ++ q))) h4 → aY (bs q) (bs x) Q h4 := fun x hx hxl hq' => by
      unfold aY
      exact Bw (fun h => absurd h hx) fun _ => b6 x h4 hxl hq'
     have yes : lW s = true → (((o.length + (Lib.join (cL (aP l)) [47]).length + ([47] : Nm).length : Nat) : Int) ≤ 9223372036854775807 ∧ aY (bs q) (bs (o ++ Lib.join (cL (aP l)) [47] ++ [47])) Q h4) := fun he => by
      rw [if_pos he] at hk
      exact ⟨by omega, b5 _ (by simp) (by simp; omega) hk⟩
     refine Bw (fun e7 => yes (by unfold lW; rw [decide_eq_true e7]; rfl)) fun e7 => ?_
     refine ifS (m := [46]) (fun e8 => yes (by unfold lW; rw [decide_eq_true e8]; simp)) fun e8 => ?_
     refine ifS (m := [46, 46]) (fun e9 => yes (by unfold lW; rw [decide_eq_true e9]; simp)) fun e9 => ?_
     rw [if_neg (by unfold lW; rw [decide_eq_false e7, decide_eq_false e8, decide_eq_false e9]; decide), List.append_nil] at hk
     refine b5 _ (fun hx => ?_) (by rw [List.length_append]; omega) hk
     exact HQ _ hkn (List.append_eq_nil_iff.1 hx).2
    ·have hkn : cL (aP l) = [] := List.length_eq_zero_iff.1 (by omega)
     rw [if_pos hkn] at hk
     rw [hkn, Lib.join_nil, List.append_nil]
     unfold aY
     refine Bw (fun _ => b6 [47] h4 (by simp) hk) fun hx => ?_
     have : o = [47] := by
      rw [ho] at hx ⊢
      split at hx
      ·rename_i hh; rw [if_pos hh]
      ·exact absurd rfl hx
     rw [this]
     exact b6 [47] h4 (by simp) hk
   by_cases hkn : cL (aP l) = []
   ·rw [hkn] at fin ⊢
    refine Ig ⟨_, rfl, ?_⟩
    rw [bR, bR, Bq]
    refine ⟨by simp; omega, ?_⟩
    have := fin h2 (Fr.refl _ _)
    rw [Lib.join_nil] at this; exact this
   ·refine JN R2 hkn (by have := AZ (cL (aP l)); omega) (by omega) fun h4 f4 => ⟨_, rfl, ?_⟩
    rw [bR, bR, Bq]
    exact ⟨by omega, fin h4 f4⟩
  refine Cd l ⟨_, rfl, ifB (fun e6 => ?_) fun e6 => ?_⟩
  ·exact b4 [47] (by simp) (by rw [if_pos (of_decide_eq_true e6)])
  ·exact b4 [] (by simp) (by rw [if_neg (of_decide_eq_false e6)])
theorem Ji [Gh] (l : Nm) (hl : l.length ≤ 2 ^ 28) (hk : ∀ h', Fr (fun _ => False) h h' → Q (.string (bs (As l))) h') : aD Tryz.prog mD #[.string (bs l)] h Q := by
 apply tu
 unfold nB
 refine xe l 63 ⟨_, rfl, ?_⟩
 unfold As lG at hk
 unfold Ex
 cases hx : AW 63 l with
 | none =>
  rw [hx] at hk
  dsimp only
  rw [if_neg (by decide)]
  refine DQ [] l hl (by simp) fun h' f => ?_
  have := hk h' f
  rw [Option.getD_none, List.take_length, List.drop_length] at this; exact this
 | some i =>
  rw [hx] at hk
  dsimp only
  have hi : i ≤ l.length := by
   have := CQ l
   unfold lG at this
   rw [hx] at this; exact this
  rw [if_pos (by simp)]
  refine slT l i rfl hi (slF l i rfl hi ?_)
  refine DQ (l.drop i) (l.take i) (by rw [List.length_take]; omega) (by rw [List.length_drop]; omega) fun h' f => hk h' f
end
end Go.Proofs.YtjmfpeiidlpngaaGreatDoor.Au
namespace Go.Proofs.YtjmfpeiidlpngaaGreatDoor.Au
set_option linter.unusedSimpArgs false
set_option linter.unusedVariables false
set_option maxRecDepth 20000
open Go
open Go.IntKind (wrap)
def trL (k : Int) (l : Nm) : Nm :=
 if k = 1 then cX l else if k = 2 then nY l else if k = 3 then rK l else if k = 4 then rL 0 0 l else if k = 5 then As l else if k = 6 then rC (-1) l else l
def jH (ks : List Int) (l : Nm) : Nm := (ks.take 4).foldl (fun s k => trL k s) l
theorem wv : ∀ l : Nm, (rK l).length ≤ l.length
 | [] => Nat.le_refl _
 | [a] => Nat.le_refl _
 | [a, b] => Nat.le_refl _
 | c :: a :: b :: r => by
  rw [rK]
  split
  ·have := wv r; simp only [List.length_cons]; omega
  ·have := wv (a :: b :: r); simp only [List.length_cons] at this ⊢; omega
theorem um : ∀ (l : Nm) (k : Int), (rC k l).length ≤ l.length
 | [], _ => Nat.le_refl _
 | c :: r, k => by
  rw [rC]
  split
  ·have := um r k; simp only [List.length_cons]; omega
  ·split
   ·have := um r (oV (bN c)); simp only [List.length_cons]; omega
   ·have := um r (-1); simp only [List.length_cons]; omega
theorem uw : ∀ (l : Nm) (b n : Nat), (rL b n l).length ≤ l.length
 | [], _, _ => Nat.le_refl _
 | c :: r, b, n => by
  rw [rL]
  split
  ·simp
  ·split
   ·have := uw r b n; simp only [List.length_cons]; omega
   ·split
    ·have := uw r ((b * 64 + (vK c).toNat) % 2 ^ (n - 2)) (n - 2); simp only [List.length_cons]; omega
    ·have := uw r (b * 64 + (vK c).toNat) (n + 6); simp only [List.length_cons]; omega
theorem E7 (p : Nm) : (sU p).length ≤ p.length + 3 := by
 unfold sU
 split
 ·simp
 ·have h1 := Cq (cL (aP p))
  have h2 := tT (aP p) []
  have h3 := uC p
  have h4 : cI [] = 0 := rfl
  unfold cL at *
  rw [List.length_append, List.length_append]
  have a1 : (if p.take 1 = [47] then ([47] : Nm) else []).length ≤ 1 := by split <;> simp
  have a2 : (if lW ((aP p).getLast (iO p)) = true then ([47] : Nm) else []).length ≤ 1 := by split <;> simp
  omega
theorem JM (k : Int) (l : Nm) : (trL k l).length ≤ l.length + 3 := by
 unfold trL
 split
 ·rw [j0]; omega
 split
 ·unfold nY; have := List.length_filter_le qO l; omega
 split
 ·have := wv l; omega
 split
 ·have := uw l 0 0; omega
 split
 ·unfold As
  rw [List.length_append, List.length_drop]
  have := E7 (l.take (lG l))
  have := CQ l
  rw [List.length_take] at *
  omega
 split
 ·have := um l (-1); omega
 ·omega
theorem yZ : ∀ (ks : List Int) (l : Nm), (ks.foldl (fun s k => trL k s) l).length ≤ l.length + 3 * ks.length
 | [], l => by simp
 | k :: ks, l => by
  rw [List.foldl_cons, List.length_cons]
  have h1 := yZ ks (trL k l)
  have h2 := JM k l
  omega
theorem EP (ks : List Int) (l : Nm) : (jH ks l).length ≤ l.length + 12 := by
 unfold jH
 have := yZ (ks.take 4) l
 rw [List.length_take] at this; omega
section
variable {h : aA} {Q : Value → aA → Prop}
theorem HM [Gh] (k : Int) (l : Nm) (hl : l.length ≤ 2 ^ 28) (hk : ∀ h', Fr (fun _ => False) h h' → Q (.string (bs (trL k l))) h') : aD Tryz.prog ma #[.int .i64 k, .string (bs l)] h Q := by
 apply vT
 unfold qF
 apply x6
 unfold ue
 unfold trL at hk
 refine ifE (fun e => ?_) fun e => ?_
 ·rw [if_pos e] at hk
  exact ⟨_, rfl, cF.2 (GX l hl fun h' f => ⟨_, rfl, hk h' f⟩)⟩
 rw [if_neg e] at hk
 refine ifE (fun e => ?_) fun e => ?_
 ·rw [if_pos e] at hk
  exact ⟨_, rfl, cF.2 (Iu l hl fun h' f => ⟨_, rfl, hk h' f⟩)⟩
 rw [if_neg e] at hk
 refine ifE (fun e => ?_) fun e => ?_
 ·rw [if_pos e] at hk
  exact ⟨_, rfl, cF.2 (ED l hl fun h' f => ⟨_, rfl, hk h' f⟩)⟩
 rw [if_neg e] at hk
 refine ifE (fun e => ?_) fun e => ?_
 ·rw [if_pos e] at hk
  exact ⟨_, rfl, cF.2 (FF l hl fun h' f => ⟨_, rfl, hk h' f⟩)⟩
 rw [if_neg e] at hk
 refine ifE (fun e => ?_) fun e => ?_
 ·rw [if_pos e] at hk
  exact ⟨_, rfl, cF.2 (Ji l hl fun h' f => ⟨_, rfl, hk h' f⟩)⟩
 rw [if_neg e] at hk
 refine ifE (fun e => ?_) fun e => ?_
 ·rw [if_pos e] at hk
  exact ⟨_, rfl, cF.2 (J0 l hl fun h' f => ⟨_, rfl, hk h' f⟩)⟩
 rw [if_neg e] at hk
 refine ⟨_, rfl, cF.2 ?_⟩
 show aD Tryz.prog m5 #[.string (bs l)] h _
 apply ti
 unfold nE
 exact ⟨_, rfl, hk h (Fr.refl _ _)⟩
end
end Go.Proofs.YtjmfpeiidlpngaaGreatDoor.Au
namespace Go.Proofs.YtjmfpeiidlpngaaGreatDoor.Au
set_option linter.unusedSimpArgs false
set_option linter.unusedVariables false
set_option maxRecDepth 20000
open Go
open Go.IntKind (wrap)
theorem DA (ks : List Int) (l : Nm) (i : Nat) (hi : i < ks.length) : ((ks.take (i + 1)).foldl (fun s k => trL k s) l) = trL ks[i] ((ks.take i).foldl (fun s k => trL k s) l) := by
 rw [show ks.take (i + 1) = ks.take i ++ [ks[i]] by rw [List.take_append_getElem], List.foldl_append]; rfl
section
variable {h : aA} {Q : Value → aA → Prop}
theorem JZ [Gh] (ks : Sl Int) (l : Nm) (hl : l.length ≤ 2 ^ 20) (o : bF 1 (fun n : Int => [Value.int .i64 n]) (kOk .i64) h ks) (hk : ∀ h', Fr (fun _ => False) h h' → Q (.string (bs (jH ks.xs l))) h') : aD Tryz.prog nZ #[.slice ks.p ks.xs.length ks.cap, .string (bs l)] h Q := by
 apply xq
 unfold sM
 have hcap := o.cap
 have hle := o.len
 obtain ⟨m, em, hm4, hml, hmt⟩ : ∃ m : Nat, (if (4 : Int) < ((ks.xs.length : Nat) : Int) then (4 : Int) else ((ks.xs.length : Nat) : Int)) = (m : Int) ∧ m ≤ 4 ∧ m ≤ ks.xs.length ∧ ks.xs.take m = ks.xs.take 4 := by
  by_cases h : (4 : Int) < ((ks.xs.length : Nat) : Int)
  ·rw [if_pos h]; exact ⟨4, rfl, by omega, by omega, rfl⟩
  ·rw [if_neg h]; exact ⟨ks.xs.length, rfl, by omega, by omega, by rw [List.take_of_length_le (by omega), List.take_of_length_le (by omega)]⟩
 rw [em]
 refine ⟨by omega, by omega, ?_⟩
 rw [Int.toNat_natCast]
 refine aJ.go (fun n st h' => ∃ i : Nat, st.2 = (i : Int) ∧ st.1 = bs ((ks.xs.take i).foldl (fun s k => trL k s) l) ∧ i ≤ m ∧ n = m - i ∧ Fr (fun _ => False) h h') m ⟨0, rfl, rfl, by omega, rfl, Fr.refl _ _⟩ ?_
 rintro n ⟨s, t⟩ h1 ⟨i, e1, e2, hi, rfl, f1⟩ Kn hK
 dsimp only at e1 e2
 subst e1 e2
 dsimp only
 unfold nU
 refine ifD (fun e => ?_) fun e => ?_
 ·have him : i < m := by omega
  have hil : i < ks.xs.length := by omega
  obtain ⟨ad, had, ci, _⟩ := (bF.fr0 xz f1 o).at_ i hil
  rw [had]
  refine bO i rfl him (aS ?_)
  rw [Int.toNat_natCast]
  have hfl := yZ (ks.xs.take i) l
  rw [List.length_take] at hfl
  refine aB (ci.at0 rfl) (HM ks.xs[i] ((ks.xs.take i).foldl (fun s k => trL k s) l) (by omega) fun h2 f2 => ⟨_, rfl, ?_⟩)
  rw [wr (by omega) (by omega)]
  exact hK (m - (i + 1)) _ _ (by omega) ⟨i + 1, rfl, by rw [DA _ _ _ hil], him, rfl, f1.trans f2⟩
 ·have : i = m := by omega
  subst this
  rw [hmt]
  exact hk h1 f1
end
end Go.Proofs.YtjmfpeiidlpngaaGreatDoor.Au
namespace Go.Proofs.YtjmfpeiidlpngaaGreatDoor
set_option linter.unusedSimpArgs false
set_option linter.unusedVariables false
set_option maxRecDepth 20000
open Go
open Go.IntKind (wrap)
def bbV (b : Bool) : List Value := [.bool b]
theorem xM (b : Bool) : (bbV b).length = 1 := rfl
def sH (seen : List Bool) (hs : List Au.Hit) : List Bool := hs.foldl (fun s x => s.set x.1 true) seen
theorem At (hs : List Au.Hit) : ∀ seen : List Bool, (sH seen hs).length = seen.length := by
 induction hs with
 | nil => intro s; rfl
 | cons x hs ih => intro s; show (sH (s.set x.1 true) hs).length = _; rw [ih, List.length_set]
theorem Fn (hs : List Au.Hit) : ∀ (seen : List Bool) (n : Nat), (sH seen hs)[n]? = (seen[n]?).map fun b => b || hs.any fun x => decide (x.1 = n) := by
 induction hs with
 | nil => intro s n; show s[n]? = _; cases s[n]? <;> simp
 | cons x hs ih =>
  intro s n
  show (sH (s.set x.1 true) hs)[n]? = _
  rw [ih, List.getElem?_set, List.any_cons]
  by_cases e : x.1 = n
  ·rw [if_pos e]
   subst e
   by_cases hl : x.1 < s.length
   ·rw [if_pos hl, List.getElem?_eq_getElem hl]; simp
   ·rw [if_neg hl, List.getElem?_eq_none (by omega)]; rfl
  ·rw [if_neg e]; cases s[n]? <;> simp [e]
def vj (p : Au.Pt) (w : Au.Nm) : Bool := (List.range (w.length + 1)).any fun e => Au.tk p w e
def tI (L : List Au.Pt) (w : Au.Nm) : List Bool := L.map fun p => vj p w
theorem vy {L : List Au.Pt} {s : Au.Nm} {fm k j e : Nat} : (j, e) ∈ Au.oS L s fm k ↔ fm < e ∧ e ≤ fm + k ∧ j < L.length ∧ Au.tk (L.getD j ⟨[], false⟩) s e = true := by
 unfold Au.oS Au.hA
 simp only [List.mem_flatMap, List.mem_range]
 constructor
 ·rintro ⟨m, hm, j', hj', hx⟩
  split at hx
  ·rename_i ho
   simp only [List.mem_singleton, Prod.mk.injEq] at hx
   obtain ⟨rfl, rfl⟩ := hx
   exact ⟨by omega, by omega, hj', ho⟩
  ·cases hx
 ·rintro ⟨h1, h2, h3, h4⟩
  refine ⟨e - (fm + 1), by omega, j, h3, ?_⟩
  have : fm + 1 + (e - (fm + 1)) = e := by omega
  rw [this, if_pos h4]; simp
theorem GM (L : List Au.Pt) (j : Nat) (hj : j < L.length) : L.getD j ⟨[], false⟩ = L[j] := by rw [List.getD_eq_getElem?_getD, List.getElem?_eq_getElem hj]; rfl
theorem Er (p : Au.Pt) (w : Au.Nm) : Au.tk p w 0 = false := by
 unfold Au.tk
 by_cases h : p.t = []
 ·simp [h]
 ·have : 0 < p.t.length := List.length_pos_iff.2 h
  have h2 : ¬ p.t.length ≤ 0 := by omega
  simp [h2]
theorem BP (p : Au.Pt) (w s : Au.Nm) (e : Nat) (he : e ≤ w.length) : Au.tk p (w ++ s) e = Au.tk p w e := by
 rw [← Au.yO p (w ++ s) e, ← Au.yO p w e, List.take_append_of_le_length he]
theorem sx {p : Au.Pt} {w : Au.Nm} : vj p w = true ↔ ∃ e, e ≤ w.length ∧ Au.tk p w e = true := by
 unfold vj
 rw [List.any_eq_true]
 constructor
 ·rintro ⟨e, h1, h2⟩; exact ⟨e, by rw [List.mem_range] at h1; omega, h2⟩
 ·rintro ⟨e, h1, h2⟩; exact ⟨e, by rw [List.mem_range]; omega, h2⟩
theorem Ct {a b : Bool} (h : a = true ↔ b = true) : a = b := by cases a <;> cases b <;> simp_all
theorem zZ (L : List Au.Pt) (w s : Au.Nm) : sH (tI L w) (Au.oS L (w ++ s) w.length s.length) = tI L (w ++ s) := by
 apply List.ext_getElem?
 intro n
 rw [Fn]
 unfold tI
 rw [List.getElem?_map, List.getElem?_map]
 by_cases hn : n < L.length
 ·rw [List.getElem?_eq_getElem hn]
  simp only [Option.map_some, Option.some.injEq]
  apply Ct
  rw [Bool.or_eq_true, sx, sx, List.any_eq_true]
  constructor
  ·rintro (⟨e, h1, h2⟩ | ⟨⟨j, e⟩, h1, h2⟩)
   ·exact ⟨e, by rw [List.length_append]; omega, by rw [BP _ _ _ _ h1]; exact h2⟩
   ·rw [decide_eq_true_iff] at h2
    simp only at h2
    subst h2
    obtain ⟨a, b, c, d⟩ := vy.1 h1
    rw [GM _ _ c] at d
    exact ⟨e, by rw [List.length_append]; omega, d⟩
  ·rintro ⟨e, h1, h2⟩
   rw [List.length_append] at h1
   by_cases he : e ≤ w.length
   ·exact .inl ⟨e, he, by rw [BP _ _ _ _ he] at h2; exact h2⟩
   ·exact .inr ⟨(n, e), vy.2 ⟨by omega, by omega, hn, by rw [GM _ _ hn]; exact h2⟩, by simp⟩
 ·rw [List.getElem?_eq_none (by omega)]; rfl
theorem Aq (L : List Au.Pt) : tI L [] = List.replicate L.length false := by
 unfold tI
 rw [List.eq_replicate_iff]
 refine ⟨by simp, fun b hb => ?_⟩
 obtain ⟨p, _, rfl⟩ := List.mem_map.1 hb
 cases h : vj p [] with
 | false => rfl
 | true =>
  obtain ⟨e, h1, h2⟩ := sx.1 h
  have : e = 0 := by simpa using h1
  subst this
  rw [Er] at h2; cases h2
theorem Fz (L : List Au.Pt) (s : Au.Nm) : sH (List.replicate L.length false) (Au.oS L s 0 s.length) = tI L s := by
 have := zZ L [] s
 rw [Aq] at this
 simpa using this
section
variable {h : aA} {Q : Value → aA → Prop}
theorem Hj [Gh] {pa : Addr} {v0 v2 v3 : Value} {q : Option Addr} {qc : Nat} {seen : List Bool} (cp : aW h pa [v0, .slice q seen.length qc, v2, v3]) (R : Row 1 bbV h q qc seen) (hq : ¬ InA q pa.block)
  {r : Option Addr} {rc : Nat} {hs : List Au.Hit} (Rr : Row 2 Au.yI h r rc hs) (hr : ∀ x, InA r x → ¬ InA q x) (hin : ∀ x ∈ hs, x.1 < seen.length) (hl : hs.length ≤ 2 ^ 40)
  (hk : ∀ h', Fr (InA q) h h' → Row 1 bbV h' q qc (sH seen hs) → Q (.tuple #[]) h') : aD Tryz.prog iU #[.pointer (some pa), .slice r hs.length rc] h Q := by
 apply uE
 unfold po
 refine aJ.mk (fun st h' => ∃ k : Nat, st = (k : Int) ∧ k ≤ hs.length ∧ Fr (InA q) h h' ∧ Row 1 bbV h' q qc (sH seen (hs.take k))) (fun st _ => hs.length - st.toNat) ⟨0, rfl, by omega, Fr.refl _ _, R⟩ ?_
 rintro st h1 ⟨k, rfl, hkl, f1, R1⟩
 unfold kY
 refine ifD (fun hlt => ?_) (fun hge => ?_)
 ·have hi : k < hs.length := by omega
  have Rr1 := Rr.fr f1 hr
  refine Rr1.idx Au.Cy (by omega) k rfl hi fun ad cc => ?_
  rw [Int.toNat_natCast]
  refine (aB (cc.at0 rfl) (aB (cc.at rfl) ?_))
  refine qf rfl rfl fun t5 h2 f2 ht5 o5 => ?_
  have cp2 : aW h2 pa [v0, .slice q seen.length qc, v2, v3] := (cp.fr f1 hq).fr0 f2
  refine aS (aC (cp2.at (j := 1) rfl) (aB (o5.cells.at0 rfl) ?_))
  have hb := hin _ (List.getElem_mem hi)
  have hb2 : hs[k].1 < (sH seen (hs.take k)).length := by rw [At]; exact hb
  have R2 := R1.fr0 f2
  rw [← At (hs.take k) seen]
  obtain ⟨aq, hqe, cq⟩ := R2.cellsAt xM (by omega) hs[k].1 hb2
  subst hqe
  refine bO hs[k].1 rfl hb2 ?_
  rw [Int.toNat_natCast]
  refine aS ?_
  rw [← j9 (aq.add (hs[k].1 * 1))]
  refine R2.set1 xM hs[k].1 hb2 rfl (j := 0) (by omega) (v := .bool true) rfl (e' := true) rfl fun h3 f3 R3 => ?_
  rw [wr (by omega) (by omega)]
  refine ⟨⟨k + 1, by omega, by omega, (f1.trans (f2.mono fun _ => False.elim)).trans f3, ?_⟩, by omega⟩
  rw [show hs.take (k + 1) = hs.take k ++ [hs[k]] by rw [List.take_append_getElem]]
  unfold sH at R3 ⊢
  rw [List.foldl_append]; exact R3
 ·have : k = hs.length := by omega
  subst this
  rw [List.take_length] at R1
  exact hk h1 f1 R1
end
end Go.Proofs.YtjmfpeiidlpngaaGreatDoor
namespace Go.Proofs.YtjmfpeiidlpngaaGreatDoor
set_option linter.unusedSimpArgs false
set_option linter.unusedVariables false
set_option maxRecDepth 20000
open Go
open Go.IntKind (wrap)
abbrev Tag := Nat → Nat
def GpX (N : Nat) (h : aA) (ga : Addr) (g : Gr) (au : Addr) (sg : List Au.St) (ws : List Au.Nm) : Prop :=
 Kp (fun x => x < N) h (fun h' => aW h' ga (g.vals ++ [.pointer (some au)]) ∧ bD.ok h' g) ∧ Au.wk N h au sg ws (ptS g.Patterns).xs
theorem GpX.fr {N : Nat} {S : Nat → Prop} {h h' : aA} {ga : Addr} {g : Gr} {au : Addr} {sg : List Au.St} {ws : List Au.Nm} (G : GpX N h ga g au sg ws) (f : Fr S h h') (hs : ∀ x, x < h.size → S x → N ≤ x) : GpX N h' ga g au sg ws :=
 ⟨G.1.fr f (fun x hx hn hh => by have := hs x hx hh; omega) fun _ _ => id, G.2.fr f hs⟩
theorem GpX.of {N : Nat} {h : aA} {ga : Addr} {g : Gr} (G : GpB (fun x => x < N) h ga g) (hN : N ≤ h.size) : ∃ au sg ws, GpX N h ga g au sg ws := by
 obtain ⟨au, sg, ws, k1, k2, d⟩ := G
 exact ⟨au, sg, ws, k1, d.auto k2 hN⟩
def gP (g : Gr) : List Au.Pt := (ptS g.Patterns).xs
theorem pV (g : Gr) : (gP g).length = g.Patterns.xs.length := List.length_map ..
def ip (g : Gr) (w : Au.Nm) : List Bool := if g.Transforms.xs = [] then tI (gP g) w else List.replicate (gP g).length false
theorem mv (g : Gr) (w : Au.Nm) : (ip g w).length = (gP g).length := by
 unfold ip; split
 ·unfold tI; rw [List.length_map]
 ·simp
def xv : Value := .func (.func 33) #[] #[]
def zz : Value := .func (.func 34) #[] #[]
def FD (t9 t13 t14 : Addr) : Value := .func (.func 36) #[] #[.pointer (some t9), .pointer (some t13), .pointer (some t14)]
def Id (t12 t9 t13 : Addr) : Value := .func (.func 39) #[] #[.pointer (some t12), .pointer (some t9), .pointer (some t13)]
def FT (t9 : Addr) : Value := .func (.func 41) #[] #[.pointer (some t9)]
def I3 : Value := .func (.func 42) #[] #[]
def GL (N : Nat) (o : Tag) (i : Nat) (h : aA) (t9 ga : Addr) (g : Gr) (pa au : Addr) (ws : List Au.Nm) (w : Au.Nm) (fd en : Value) : Prop :=
 (g.Patterns.xs = [] ∧ fd = xv ∧ en = zz) ∨
 (g.Patterns.xs ≠ [] ∧ g.Transforms.xs = [] ∧ en = zz ∧ ∃ t13 t14 cur p, fd = FD t9 t13 t14 ∧ Kp (fun x => o x = 0) h (fun h' => aW h' t13 [.pointer (some pa)] ∧ aW h' t14 [.pointer (some cur)]) ∧ Au.rI N ws h cur au w p ∧ o cur.block = 11 + 2 * i ∧ ∀ x, InA p x → o x = 11 + 2 * i) ∨
 (g.Patterns.xs ≠ [] ∧ g.Transforms.xs ≠ [] ∧ fd = xv ∧ ∃ t12 t13, en = Id t12 t9 t13 ∧ Kp (fun x => o x = 0) h (fun h' => aW h' t12 [.pointer (some ga)] ∧ aW h' t13 [.pointer (some pa)]))
structure mW (N : Nat) (o : Tag) (i : Nat) (h : aA) (t9 ga : Addr) (g : Gr) (pa : Addr) (w : Au.Nm) (seen : List Bool) : Prop where
 tag : o pa.block = 0
 len : seen.length = (gP g).length
 ex : ∃ q qc fd en au sg ws, Kp (fun x => o x = 0) h (fun h' => aW h' pa [.pointer (some ga), .slice q seen.length qc, fd, en]) ∧ Row 1 bbV h q qc seen ∧ (∀ x, InA q x → o x = 10 + 2 * i) ∧ GpX N h ga g au sg ws ∧ GL N o i h t9 ga g pa au ws w fd en
section
variable {N i : Nat} {o o' : Tag} {h h' : aA} {t9 ga : Addr} {g : Gr} {pa : Addr} {w : Au.Nm} {seen : List Bool} {S : Nat → Prop}
theorem Kp.tag {P : aA → Prop} (k : Kp (fun x => o x = 0) h P) (f : Fr S h h') (ho : Au.Old h o o') (hs : ∀ x, x < h.size → S x → o x ≠ 0) : Kp (fun x => o' x = 0) h' P :=
 k.fr f (fun x hx h0 hh => hs x hx hh h0) fun x hx h0 => by rw [ho x hx]; exact h0
theorem GL.fr {au : Addr} {ws : List Au.Nm} {fd en : Value} (M : GL N o i h t9 ga g pa au ws w fd en) (f : Fr S h h') (ho : Au.Old h o o') (hs : ∀ x, x < h.size → S x → o x ≠ 0 ∧ o x ≠ 11 + 2 * i) : GL N o' i h' t9 ga g pa au ws w fd en := by
 rcases M with M | ⟨m1, m2, m3, t13, t14, cur, p, m4, k, C, c1, c2⟩ | ⟨m1, m2, m3, t12, t13, m4, k⟩
 ·exact .inl M
 ·refine .inr (.inl ⟨m1, m2, m3, t13, t14, cur, p, m4, k.tag f ho fun x hx hh => (hs x hx hh).1, C.fr f (fun hh => (hs _ C.lt hh).2 c1) (fun x hx hh => (hs _ (C.lt' hx) hh).2 (c2 x hx)), ?_, fun x hx => ?_⟩)
  ·rw [ho _ C.lt]; exact c1
  ·rw [ho _ (C.lt' hx)]; exact c2 x hx
 ·exact .inr (.inr ⟨m1, m2, m3, t12, t13, m4, k.tag f ho fun x hx hh => (hs x hx hh).1⟩)
theorem mW.fr (P : mW N o i h t9 ga g pa w seen) (hp : pa.block < h.size) (low : ∀ x, x < N → o x = 0) (f : Fr S h h') (ho : Au.Old h o o') (hs : ∀ x, x < h.size → S x → o x ≠ 0 ∧ o x ≠ 10 + 2 * i ∧ o x ≠ 11 + 2 * i) : mW N o' i h' t9 ga g pa w seen := by
 obtain ⟨tg, ln, q, qc, fd, en, au, sg, ws, k, R, hq, G, M⟩ := P
 refine ⟨by rw [ho _ hp]; exact tg, ln, q, qc, fd, en, au, sg, ws, k.tag f ho fun x hx hh => (hs x hx hh).1, R.fr f (fun x hx hh => (hs x (R.lt hx) hh).2.1 (hq x hx)), fun x hx => by rw [ho _ (R.lt hx)]; exact hq x hx, G.fr f (fun x hx hh => ?_), M.fr f ho fun x hx hh => ⟨(hs x hx hh).1, (hs x hx hh).2.2⟩⟩
 rcases Nat.lt_or_ge x N with hl | hl
 ·exact absurd (low x hl) (hs x hx hh).1
 ·exact hl
end
def yn (s : Addr) (f : bI) (dir : Int) (pp : Option Addr) (pn pc : Nat) (bp : Option Addr) (bn bc : Nat) (work : Int) (done : Bool) (op : Option Addr) (on oc : Nat) : List Value :=
 [.pointer (some s), .int .i64 f.Proto, .bool f.Src.V6, .int .u64 f.Src.Hi, .int .u64 f.Src.Lo, .bool f.Dst.V6, .int .u64 f.Dst.Hi, .int .u64 f.Dst.Lo, .int .i64 f.Sport, .int .i64 f.Dport, .int .i64 dir, .slice pp pn pc, .slice bp bn bc, .int .i64 work, .bool done, .slice op on oc]
def jN (g : Gr) : Bool := decide (g.Patterns.xs ≠ []) && decide (g.Transforms.xs = [])
theorem mW.feed [Gh] {N i : Nat} {o : Tag} {h : aA} {t9 ga : Addr} {g : Gr} {pa : Addr} {w : Au.Nm} (P : mW N o i h t9 ga g pa w (ip g w)) (hp : pa.block < h.size) (low : ∀ x, x < N → o x = 0)
  {c s : Addr} {f : bI} {dir : Int} {pp : Option Addr} {pn pc : Nat} {bp : Option Addr} {bn bc : Nat} {work : Int} {done : Bool} {op : Option Addr} {on oc : Nat} (oc9 : Own h c (yn s f dir pp pn pc bp bn bc work done op on oc) iy) (tc : o c.block = 1) (k9 : Kp (fun x => o x = 0) h fun h' => aW h' t9 [.pointer (some c)])
  (x : Au.Nm) (hx : w.length + x.length ≤ 2 ^ 16) (hw : 0 ≤ work ∧ work ≤ 2 ^ 40) {Q : Value → aA → Prop} {K : aA → Prop} {fd : Value} (hfd : hcell h (pa.add 2) = some fd) (hQ : ∀ h', K h' → Q (.tuple #[]) h')
  (hk : ∀ h' o', Au.Old h o o' → Fr (fun x => o x = 1 ∨ o x = 10 + 2 * i ∨ o x = 11 + 2 * i) h h' → Own h' c (yn s f dir pp pn pc bp bn bc (work + if jN g = true then (x.length : Int) else 0) done op on oc) iy → mW N o' i h' t9 ga g pa (w ++ x) (ip g (w ++ x)) → K h') :
  lQ Tryz.prog fd #[.string (bs x)] h Q := by
 obtain ⟨tg, ln, q, qc, fd', en, au, sg, ws, k, R, hq, G, M⟩ := P
 have e := hfd.symm.trans (k.now.at (j := 2) rfl)
 simp only [Option.some.injEq] at e
 subst e
 rcases M with ⟨m1, m2, m3⟩ | ⟨m1, m2, m3, t13, t14, cur, p, m4, kc, C, c1, c2⟩ | ⟨m1, m2, m3, t12, t13, m4, kc⟩
 ·subst m2
  unfold xv
  rw [cF]
  apply np
  unfold ki
  refine hQ _ (hk h o (Au.Old.refl _ _) (Fr.refl _ _) ?_ ?_)
  ·have : jN g = false := by unfold jN; simp [m1]
   rw [this]; simpa using oc9
  ·have e0 : gP g = [] := by unfold gP ptS; rw [m1]; rfl
   have e1 : ∀ w, ip g w = [] := fun w => List.length_eq_zero_iff.1 (by rw [mv, e0]; rfl)
   rw [e1] at k R ⊢
   exact ⟨tg, by rw [e0]; rfl, q, qc, xv, en, au, sg, ws, k, R, hq, G, .inl ⟨m1, rfl, m3⟩⟩
 ·subst m4
  unfold FD
  rw [cF]
  have hd : jN g = true := by unfold jN; simp [m1, m2]
  have sW : ∀ w, ip g w = tI (gP g) w := fun w => by unfold ip; rw [if_pos m2]
  apply tC
  unfold nC
  have lc := oc9.lt
  refine aV (k9.now.at0 rfl) (aS (aB (oc9.cells.at (j := 13) rfl) (aS ?_)))
  rw [bR, wr (by omega) (by omega)]
  refine cK oc9 13 (by show 13 < 16; omega) rfl fun h1 f1 z1 o1 => ?_
  have kc1 := kc.tag f1 (Au.Old.refl _ _) fun x hx hh => by rw [hh, tc]; omega
  have C1 := C.fr f1 (fun hh => by rw [hh, tc] at c1; omega) fun x hx hh => by have := c2 x hx; rw [hh, tc] at this; omega
  have NC : N ≤ h.size := G.2.s.1
  have G1 := G.fr f1 fun x hx hh => by
   rcases Nat.lt_or_ge x N with hl | hl
   ·have := low x hl; rw [hh, tc] at this; omega
   ·exact hl
  refine aV (kc1.now.1.at0 rfl) (aV (kc1.now.2.at0 rfl) ?_)
  refine Au.Hm G1.2 C1 x (by omega) fun h2 p' r rc f2 C2 hp' Rr hr hrp => ⟨_, _, _, rfl, ?_⟩
  have z1' := f1.size
  have z2 := f2.size
  have lcur := C1.lt
  have hS2 : ∀ y, y < h.size → (y = cur.block ∨ InA p y) → o y = 11 + 2 * i := fun y hy hh => by
   rcases hh with hh | hh
   ·rw [hh]; exact c1
   ·exact c2 y hh
  have kc2 := kc1.fr (B' := fun x => o x = 0) f2 (fun y hy h0 hh => by have := hS2 y (by omega) hh; omega) fun _ _ => id
  refine ⟨aV (kc2.now.1.at0 rfl) rfl, ?_⟩
  have k1 := k.tag f1 (Au.Old.refl _ _) fun x hx hh => by rw [hh, tc]; omega
  have k2 := k1.fr (B' := fun x => o x = 0) f2 (fun y hy h0 hh => by have := hS2 y (by omega) hh; omega) fun _ _ => id
  have R1 := R.fr f1 fun y hy hh => by have := hq y hy; rw [hh, tc] at this; omega
  have lq : ∀ y, InA q y → y < h.size := fun y hy => R.lt hy
  have R2 := R1.fr f2 fun y hy hh => by have := hq y hy; have := hS2 y (lq y hy) hh; omega
  refine Hj k2.now R2 (fun hh => by have := hq _ hh; omega) Rr (fun y hy hh => by have := hr y hy; have := lq y hh; omega) (fun y hy => ?_) ?_ fun h3 f3 R3 => ⟨rfl, ?_⟩
  ·rw [mv]
   exact (vy.1 (show (y.1, y.2) ∈ _ from hy)).2.2.1
  ·have := Au.vB (gP g) (w ++ x) w.length x.length
   have hm := G.2.m
   have : x.length * (gP g).length ≤ 2 ^ 16 * 512 := Nat.mul_le_mul (by omega) hm
   have : (Au.oS (gP g) (w ++ x) w.length x.length).length ≤ 2 ^ 40 := by omega
   exact this
  ·refine hQ _ (hk h3 (Au.upT o h.size (11 + 2 * i)) (Au.Old.up (Nat.le_refl _)) ?_ ?_ ?_)
   ·refine ((f1.mono' fun y hy hh => .inl (by rw [hh, tc])).tr f2 fun y hy hh => .inr (.inr (hS2 y hy hh))).tr f3 fun y hy hh => .inr (.inl (hq y hh))
   ·rw [hd, if_pos rfl]
    have o3 := (o1.fr f2 fun hh => by have := hS2 _ (by omega) hh; rw [tc] at this; omega).fr f3 fun hh => by have := hq _ hh; rw [tc] at this; omega
    exact o3
   ·have e3 : sH (ip g w) (Au.oS (gP g) (w ++ x) w.length x.length) = ip g (w ++ x) := by rw [sW, sW]; exact zZ _ _ _
    have R3' : Row 1 bbV h3 q qc (ip g (w ++ x)) := by rw [← e3]; exact R3
    have up : ∀ y, y < h.size → Au.upT o h.size (11 + 2 * i) y = o y := fun y hy => Au.dU hy
    have k3 := k2.fr (B' := fun x => o x = 0) f3 (fun y hy h0 hh => by have := hq y hh; omega) fun _ _ => id
    have kc3 := kc2.fr (B' := fun x => o x = 0) f3 (fun y hy h0 hh => by have := hq y hh; omega) fun _ _ => id
    have toU : ∀ {P : aA → Prop}, Kp (fun x => o x = 0) h P → Kp (fun x => Au.upT o h.size (11 + 2 * i) x = 0) h3 P := fun kk => by
     refine ((kk.fr (B' := fun x => Au.upT o h.size (11 + 2 * i) x = 0) f1 (fun y hy h0 hh => by rw [hh, tc] at h0; omega) fun y hy h0 => by rw [up y hy]; exact h0).fr (B' := fun x => Au.upT o h.size (11 + 2 * i) x = 0) f2 (fun y hy h0 hh => ?_) fun _ _ => id).fr (B' := fun x => Au.upT o h.size (11 + 2 * i) x = 0) f3 (fun y hy h0 hh => ?_) fun _ _ => id
     ·have hy' : y < h.size := by
       rcases hh with hh | hh
       ·omega
       ·have := C.lt' hh; omega
      have := hS2 y hy' hh; rw [up y hy'] at h0; omega
     ·have := hq y hh; have := lq y hh; rw [up y this] at h0; omega
    refine ⟨by rw [up _ hp]; exact tg, mv _ _, q, qc, _, _, au, sg, ws, ?_, R3', fun y hy => by rw [up y (lq y hy)]; exact hq y hy, ?_, .inr (.inl ⟨m1, m2, m3, t13, t14, cur, p', rfl, toU kc, ?_, ?_, fun y hy => ?_⟩)⟩
    ·have := toU k
     rw [mv] at this ⊢
     exact this
    ·refine (G1.fr f2 fun y hy hh => ?_).fr f3 fun y hy hh => ?_
     ·exact C1.ge hh
     ·rcases Nat.lt_or_ge y N with hl | hl
      ·have := low y hl; have := hq y hh; omega
      ·exact hl
    ·exact C2.fr f3 (fun hh => by have := hq _ hh; omega) fun y hy hh => by
      have h5 := hq y hh
      rcases hp' y hy with h6 | h6
      ·have := c2 y h6; omega
      ·have := lq y hh; omega
    ·rw [up _ (by omega)]; exact c1
    ·rcases hp' y hy with h6 | h6
     ·rw [up y (by have := C.lt' h6; omega)]; exact c2 y h6
     ·exact Au.jR (by omega)
 ·subst m3
  unfold xv
  rw [cF]
  apply np
  unfold ki
  refine hQ _ (hk h o (Au.Old.refl _ _) (Fr.refl _ _) ?_ ?_)
  ·have : jN g = false := by unfold jN; simp [m2]
   rw [this]; simpa using oc9
  ·have e1 : ip g (w ++ x) = ip g w := by unfold ip; rw [if_neg m2, if_neg m2]
   rw [e1]
   exact ⟨tg, ln, q, qc, xv, en, au, sg, ws, k, R, hq, G, .inr (.inr ⟨m1, m2, rfl, t12, t13, m4, kc⟩)⟩
end Go.Proofs.YtjmfpeiidlpngaaGreatDoor
namespace Go.Proofs.YtjmfpeiidlpngaaGreatDoor
set_option linter.unusedSimpArgs false
set_option linter.unusedVariables false
set_option maxRecDepth 20000
open Go
open Go.IntKind (wrap)
theorem Ki {h : aA} {a : Addr} {v : Value} (hv : hcell h a = some v) : a.block < h.size := by
 rcases Nat.lt_or_ge a.block h.size with hb | hb
 ·exact hb
 ·unfold hcell at hv; rw [Array.getElem?_eq_none hb] at hv; cases hv
section
variable {N i : Nat} {o o' : Tag} {h h' : aA} {s c t9 ga : Addr} {g : Gr} {pa : Addr} {w : Au.Nm} {seen : List Bool} {S : Nat → Prop}
theorem mW.lt (P : mW N o i h t9 ga g pa w seen) : pa.block < h.size := by
 obtain ⟨tg, ln, q, qc, fd, en, au, sg, ws, k, _⟩ := P
 exact Ki (k.now.at0 rfl)
end
structure kI (N : Nat) (F : Nat → Prop) (o : Tag) (h : aA) (s c t9 : Addr) (bs : List Bd) (gs K : List Gr) (av pa : List Addr) (tx : Nat → Au.Nm) (sn : Nat → Gr → List Bool) : Prop where
 low : ∀ x, x < N → o x = 0
 fp : ∀ x, x < h.size → N ≤ x → o x ≠ 9 → F x
 set : vt N h s bs gs
 k9 : Kp (fun x => o x = 0) h fun h' => aW h' t9 [.pointer (some c)]
 la : av.length = K.length
 lp : pa.length = K.length
 part : ∀ i (h1 : i < K.length) (h2 : i < av.length) (h3 : i < pa.length), mW N o i h t9 av[i] K[i] pa[i] (tx i) (sn i K[i])
def sL (o : Tag) (h : aA) (s c : Addr) (f : bI) (dir : Int) (L : List Addr) (buf : Au.Nm) (work : Int) (done : Bool) (out : List Int) : Prop :=
 o c.block = 1 ∧ ∃ pp pc bp bc op oc, Own h c (yn s f dir pp L.length pc bp buf.length bc work done op out.length oc) iy ∧ Row 1 adV h pp pc L ∧ (∀ x, InA pp x → o x = 4) ∧ Row 1 Au.bV h bp bc buf ∧ (∀ x, InA bp x → o x = 2) ∧ Row 1 Au.nf h op oc out ∧ ∀ x, InA op x → o x = 3
def zV (o : Tag) (h : aA) (t9 : Addr) (kp : Option Addr) : Prop := ∀ a, kp = some a → ∃ t90, Kp (fun x => o x = 0) h fun h' => aW h' a [.pointer (some t90), .slice none 0 0, FT t9, I3] ∧ aW h' t90 [.int .i64 0, .slice none 0 0, .slice none 0 0, .slice none 0 0, .slice none 0 0, .pointer none]
section
variable {N : Nat} {F : Nat → Prop} {o o' : Tag} {h h' : aA} {s c t9 : Addr} {f : bI} {dir : Int} {bs : List Bd} {gs K : List Gr} {av pa L : List Addr} {tx : Nat → Au.Nm} {sn : Nat → Gr → List Bool} {S : Nat → Prop} {buf : Au.Nm} {work : Int} {done : Bool} {out : List Int} {kp : Option Addr}
theorem kI.fr (R : kI N F o h s c t9 bs gs K av pa tx sn) (f : Fr S h h') (ho : Au.Old h o o') (hs : ∀ x, x < h.size → S x → o x ≠ 0 ∧ o x < 10) {F' : Nat → Prop} (hF : ∀ x, x < h'.size → N ≤ x → o' x ≠ 9 → F' x) (hF0 : h.size ≤ h'.size := by omega) : kI N F' o' h' s c t9 bs gs K av pa tx sn := by
 have hN := R.set.1
 refine ⟨fun x hx => by rw [ho x (by omega)]; exact R.low x hx, hF, R.set.fr f fun x hx hh => ?_, R.k9.tag f ho fun x hx hh => (hs x hx hh).1, R.la, R.lp, fun i h1 h2 h3 => ?_⟩
 ·rcases Nat.lt_or_ge x N with hl | hl
  ·exact absurd (R.low x hl) (hs x hx hh).1
  ·exact hl
 ·have P := R.part i h1 h2 h3
  exact P.fr P.lt R.low f ho fun x hx hh => by have := hs x hx hh; omega
theorem sL.fr (C : sL o h s c f dir L buf work done out) (f' : Fr S h h') (ho : Au.Old h o o') (hs : ∀ x, x < h.size → S x → o x = 0 ∨ o x = 9 ∨ 10 ≤ o x) : sL o' h' s c f dir L buf work done out := by
 obtain ⟨tg, pp, pc, bp, bc, op, oc, ow, R1, t1, R2, t2, R3, t3⟩ := C
 refine ⟨by rw [ho _ ow.lt]; exact tg, pp, pc, bp, bc, op, oc, ow.fr f' (fun hh => by have := hs _ ow.lt hh; omega), R1.fr f' (fun x hx hh => by have := hs _ (R1.lt hx) hh; have := t1 x hx; omega), fun x hx => by rw [ho _ (R1.lt hx)]; exact t1 x hx,
  R2.fr f' (fun x hx hh => by have := hs _ (R2.lt hx) hh; have := t2 x hx; omega), fun x hx => by rw [ho _ (R2.lt hx)]; exact t2 x hx, R3.fr f' (fun x hx hh => by have := hs _ (R3.lt hx) hh; have := t3 x hx; omega), fun x hx => by rw [ho _ (R3.lt hx)]; exact t3 x hx⟩
theorem zV.fr (k : zV o h t9 kp) (f : Fr S h h') (ho : Au.Old h o o') (hs : ∀ x, x < h.size → S x → o x ≠ 0) : zV o' h' t9 kp := fun a e => by
 obtain ⟨t90, kk⟩ := k a e
 exact ⟨t90, kk.tag f ho hs⟩
end
def pO (K : List Gr) : Bool := K.any fun g => decide (g.Patterns.xs ≠ []) && decide (g.Transforms.xs ≠ [])
theorem DV : gM Tryz.prog dQ fK Tryz.t101 (.pointer none) := ⟨Tryz.underlying97, by kernel_rfl, by kernel_rfl, by kernel_rfl, by decide +kernel⟩
theorem Ei : gM Tryz.prog rq C4 Tryz.t4 (.bool false) := ⟨Tryz.underlying102, by kernel_rfl, by kernel_rfl, by kernel_rfl, by decide +kernel⟩
def sn0 (w : Au.Nm) : Nat → Gr → List Bool := fun _ g => ip g w
theorem rR {h : aA} {a : Addr} {vs ws : List Value} (c : aW h a (vs ++ ws)) : aW h a vs := fun j hj => by
 have := c j (by rw [List.length_append]; omega)
 rw [this, List.getElem_append_left hj]
structure FZ (hs h : aA) (ga pa t12 t13 : Addr) (q : Option Addr) (n qc : Nat) : Prop where
 o12 : Own h t12 [.pointer (some ga)] eJ
 op : Own h pa [.pointer (some ga), .slice q n qc, xv, zz] jA
 o13 : Own h t13 [.pointer (some pa)] fK
 row : Row 1 bbV h q qc (List.replicate n false)
 ge : hs.size ≤ t12.block ∧ hs.size ≤ pa.block ∧ hs.size ≤ t13.block
 ne : t12.block ≠ pa.block ∧ t12.block ≠ t13.block ∧ pa.block ≠ t13.block
 qn : ∀ x, InA q x → hs.size ≤ x ∧ x ≠ t12.block ∧ x ≠ pa.block ∧ x ≠ t13.block
theorem FZ.fr {hs h h' : aA} {ga pa t12 t13 : Addr} {q : Option Addr} {n qc : Nat} {S : Nat → Prop} (T : FZ hs h ga pa t12 t13 q n qc) (f : Fr S h h') (hS : ∀ x, S x → x < hs.size) : FZ hs h' ga pa t12 t13 q n qc := by
 have hn : ∀ x, hs.size ≤ x → ¬ S x := fun x hx hh => by have := hS x hh; omega
 exact ⟨T.o12.fr f (hn _ T.ge.1), T.op.fr f (hn _ T.ge.2.1), T.o13.fr f (hn _ T.ge.2.2), T.row.fr f fun x hx => hn x (T.qn x hx).1, T.ge, T.ne, T.qn⟩
open Classical in
noncomputable def sf (hs : aA) (o : Tag) (k : Nat) (A B C : Nat → Prop) : Tag := fun x => if x < hs.size then o x else if A x then 10 + 2 * k else if B x then 4 else if C x then 11 + 2 * k else 0
section
variable {hs : aA} {o : Tag} {k : Nat} {A B C : Nat → Prop} {x : Nat}
theorem mG (h : x < hs.size) : sf hs o k A B C x = o x := if_pos h
theorem Jg (h : hs.size ≤ x) (a : A x) : sf hs o k A B C x = 10 + 2 * k := by unfold sf; rw [if_neg (by omega), if_pos a]
theorem GQ (h : hs.size ≤ x) (a : ¬ A x) (b : B x) : sf hs o k A B C x = 4 := by unfold sf; rw [if_neg (by omega), if_neg a, if_pos b]
theorem JW (h : hs.size ≤ x) (a : ¬ A x) (b : ¬ B x) (c : C x) : sf hs o k A B C x = 11 + 2 * k := by unfold sf; rw [if_neg (by omega), if_neg a, if_neg b, if_pos c]
theorem tJ (h : hs.size ≤ x) (a : ¬ A x) (b : ¬ B x) (c : ¬ C x) : sf hs o k A B C x = 0 := by unfold sf; rw [if_neg (by omega), if_neg a, if_neg b, if_neg c]
theorem CB : Au.Old hs o (sf hs o k A B C) := fun x hx => mG hx
end
theorem sq {o : Tag} {h : aA} {a : Addr} {vs : List Value} {T : TypeId} (w : Own h a vs T) (ho : o a.block = 0) : Kp (fun x => o x = 0) h fun h' => aW h' a vs := fun h' f => (w.fr f fun hh => hh ho).cells
theorem kI.snoc {N : Nat} {F : Nat → Prop} {o : Tag} {h : aA} {s c t9 : Addr} {bs : List Bd} {gs K : List Gr} {av pa : List Addr} {tx : Nat → Au.Nm} {sn : Nat → Gr → List Bool} (R : kI N F o h s c t9 bs gs K av pa tx sn) {ga p : Addr} {g : Gr}
  (P : mW N o K.length h t9 ga g p (tx K.length) (sn K.length g)) : kI N F o h s c t9 bs gs (K ++ [g]) (av ++ [ga]) (pa ++ [p]) tx sn := by
 have la := R.la
 have lp := R.lp
 refine ⟨R.low, R.fp, R.set, R.k9, by simp [la], by simp [lp], fun i h1 h2 h3 => ?_⟩
 rw [List.length_append, List.length_singleton] at h1
 by_cases hi : i < K.length
 ·rw [List.getElem_append_left hi, List.getElem_append_left (by omega), List.getElem_append_left (by omega)]
  exact R.part i hi (by omega) (by omega)
 ·have : i = K.length := by omega
  subst this
  have e1 : (K ++ [g])[K.length] = g := by simp
  have e2 : (av ++ [ga])[K.length]'h2 = ga := by rw [List.getElem_append_right (by omega)]; simp
  have e3 : (pa ++ [p])[K.length]'h3 = p := by rw [List.getElem_append_right (by omega)]; simp
  rw [e1, e2, e3]; exact P
end Go.Proofs.YtjmfpeiidlpngaaGreatDoor
namespace Go.Proofs.YtjmfpeiidlpngaaGreatDoor
set_option linter.unusedSimpArgs false
set_option linter.unusedVariables false
set_option maxRecDepth 20000
open Go
open Go.IntKind (wrap)
set_option maxHeartbeats 1000000 in
theorem FB [Gh] {N k : Nat} {o : Tag} {h0 hs h : aA} {s c t9 : Addr} {bs : List Bd} {gs K : List Gr} {av pa : List Addr} {f : bI} {dir : Int}
  (hN : N ≤ h0.size) (R : kI N (fun x => h0.size ≤ x) o hs s c t9 bs gs K av pa (fun _ => []) (sn0 [])) (C : sL o hs s c f dir pa [] 0 false []) (f0 : Fr (fun _ => False) h0 hs) (hK : K.length = k) (hkl : k ≤ 40)
  {g : Gr} {ga pk t12 t13 : Addr} {q : Option Addr} {qc : Nat} (T : FZ hs h ga pk t12 t13 q (gP g).length qc) (fs : Fr (fun _ => False) hs h) {au : Addr} {sg : List Au.St} {ws : List Au.Nm} (G : GpX N hs ga g au sg ws)
  {keep : Bool} {pga : Option Addr} {pgn pgc : Nat} {t28 : Int} {Q : Value → aA → Prop} {Kn1 : Bool × Int → aA → Prop}
  (hk : ∀ keep' pa' h' o', keep' = (keep || (decide (g.Patterns.xs ≠ []) && decide (g.Transforms.xs ≠ []))) → Fr (fun _ => False) h0 h' → kI N (fun x => h0.size ≤ x) o' h' s c t9 bs gs (K ++ [g]) (av ++ [ga]) pa' (fun _ => []) (sn0 []) → sL o' h' s c f dir pa' [] 0 false [] → Kn1 (keep', (k : Int) + 1) h') :
  cU t9 keep t12 t13 pga pgn pgc t28 (k : Int) Q Kn1 h := by
 unfold cU
 have lp := R.lp
 obtain ⟨tg, pp, pc, bp, bc, op, oc, ow, R1, t1, R2, t2, R3, t3⟩ := C
 have lc := ow.lt
 have cge : h0.size ≤ c.block := by
  refine R.fp _ lc ?_ (by rw [tg]; omega)
  rcases Nat.lt_or_ge c.block N with hl | hl
  ·have := R.low _ hl; omega
  ·exact hl
 have ppge : ∀ x, InA pp x → h0.size ≤ x := fun x hx => by
  refine R.fp _ (R1.lt hx) ?_ (by rw [t1 x hx]; omega)
  rcases Nat.lt_or_ge x N with hl | hl
  ·have := R.low _ hl; have := t1 x hx; omega
  ·exact hl
 have zf0 := f0.size
 have zs := fs.size
 have k9 := R.k9.fr0 fs
 have ow1 := ow.fr0 fs
 refine aV (k9.now.at0 rfl) (aV (k9.now.at0 rfl) (aS (aC (ow1.cells.at (j := 11) rfl) (aV (T.o13.cells.at0 rfl) ?_))))
 refine aZ (vs := adV pk) fun t49 h19 f19 e19 o49 => ?_
 have z19 := f19.size
 have k19 := k9.fr0 f19
 have ow19 := ow1.fr0 f19
 refine ⟨aV (k19.now.at0 rfl) rfl, aV (k19.now.at0 rfl) rfl, aC (ow19.cells.at (j := 11) rfl) rfl, ?_⟩
 refine ((R1.fr0 fs).fr0 f19).app DV Tryz.underlying97 (by intro k e; cases e) (by kernel_rfl) (by decide +kernel) uo xW o49 1 (by omega) fun pp' pc' h20 R1' f20 hn20 => ⟨_, _, _, rfl, ?_⟩
 have z20 := f20.size
 have k20 := k19.fr (B' := fun x => o x = 0) f20 (fun x hx h1 hh => by have := t1 x hh; omega) fun _ _ => id
 refine ⟨aV (k20.now.at0 rfl) rfl, aS ?_⟩
 have ow20 := ow19.fr f20 fun hh => by have := t1 _ hh; omega
 refine cK ow20 11 (by show 11 < 16; omega) rfl fun h21 f21 z21 ow21 => ?_
 have k21 := k20.fr (B' := fun x => o x = 0) f21 (fun x hx h1 hh => by rw [hh] at h1; omega) fun _ _ => id
 have lpp : ∀ x, InA pp x → x < hs.size := fun x hx => R1.lt hx
 have T19 := T.fr f19 fun x hh => hh.elim
 have T20 := T19.fr f20 lpp
 have T21 := T20.fr f21 fun x hh => by omega
 have F21 : Fr (fun x => InA pp x ∨ x = c.block) hs h21 := (((fs.trans f19).mono fun _ => False.elim).trans (f20.mono fun _ => .inl)).trans (f21.mono fun _ => .inr)
 have G21 := G.fr F21 fun x hx hh => by
  rcases Nat.lt_or_ge x N with hl | hl
  ·have := R.low x hl
   rcases hh with hh | hh
   ·have := t1 x hh; omega
   ·rw [hh, tg] at this; omega
  ·exact hl
 have gc := rR G21.1.now.1
 have gok := G21.1.now.2
 have npp' : ∀ x, InA pp' x → InA pp x ∨ h19.size ≤ x := hn20
 have nq' : ∀ x, InA q x → ¬ InA pp' x := fun x hx hh => by
  have h1 := T19.row.lt hx
  have h2 := (T.qn x hx).1
  rcases hn20 x hh with h | h
  ·have := lpp x h; omega
  ·omega
 have own' : ∀ {a : Addr}, hs.size ≤ a.block → a.block < h19.size → ¬ InA pp' a.block := fun {a} h1 h2 hh => by
  rcases hn20 _ hh with h | h
  ·have := lpp _ h; omega
  ·omega
 have l12 := T19.o12.lt
 have lpk := T19.op.lt
 have l13 := T19.o13.lt
 have fin : ∀ h' (Cu : Nat → Prop) (fd en : Value) (pp2 : Option Addr) (pc2 : Nat), (∀ x, Cu x → h21.size ≤ x) → ∀ {S : Nat → Prop}, Fr S h21 h' → (∀ x, S x → x = pk.block ∨ h21.size ≤ x) →
   Own h' pk [.pointer (some ga), .slice q (gP g).length qc, fd, en] jA → GL N (sf hs o k (InA q) (InA pp') Cu) k h' t9 ga g pk au ws [] fd en →
   Fr (fun _ => False) h0 h' ∧ kI N (fun x => h0.size ≤ x) (sf hs o k (InA q) (InA pp') Cu) h' s c t9 bs gs (K ++ [g]) (av ++ [ga]) (pa ++ [pk]) (fun _ => []) (sn0 []) ∧ sL (sf hs o k (InA q) (InA pp') Cu) h' s c f dir (pa ++ [pk]) [] 0 false [] := by
  intro h' Cu fd en pp2 pc2 hCu S fS hS oP M
  have zS := fS.size
  have Ftot : Fr (fun x => InA pp x ∨ x = c.block) hs h' := F21.tr fS fun x hx hh => by
   have := T.ge.2.1
   rcases hS x hh with h | h
   ·omega
   ·omega
  have nS : ∀ x, x < h21.size → x ≠ pk.block → ¬ S x := fun x hx hne hh => by
   rcases hS x hh with h | h
   ·exact hne h
   ·omega
  have tpp : ∀ x, InA pp' x → sf hs o k (InA q) (InA pp') Cu x = 4 := fun x hx => by
   rcases Nat.lt_or_ge x hs.size with hl | hl
   ·rw [mG hl]
    rcases hn20 x hx with h | h
    ·exact t1 x h
    ·omega
   ·exact GQ hl (fun hh => nq' x hh hx) hx
  have Rr : kI N (fun x => h0.size ≤ x) (sf hs o k (InA q) (InA pp') Cu) h' s c t9 bs gs K av pa (fun _ => []) (sn0 []) := by
   refine R.fr Ftot CB (fun x hx hh => ?_) (fun x hx hN' hne => ?_) Ftot.size
   ·rcases hh with hh | hh
    ·have := t1 x hh; omega
    ·rw [hh, tg]; omega
   ·rcases Nat.lt_or_ge x hs.size with hl | hl
    ·exact R.fp x hl hN' (by rw [mG hl] at hne; exact hne)
    ·show h0.size ≤ x; omega
  refine ⟨f0.tr Ftot fun x hx hh => ?_, Rr.snoc ⟨?_, ?_, q, qc, fd, en, au, sg, ws, ?_, ?_, fun x hx => ?_, ?_, ?_⟩, ?_, pp', pc', bp, bc, op, oc, ?_, ?_, tpp, ?_, fun x hx => ?_, ?_, fun x hx => ?_⟩
  ·rcases hh with hh | hh
   ·have := ppge x hh; omega
   ·omega
  ·exact tJ T.ge.2.1 (fun hh => (T.qn _ hh).2.2.1 rfl) (own' T.ge.2.1 lpk) fun hh => by have := hCu _ hh; omega
  ·exact mv _ _
  ·have := sq (o := sf hs o k (InA q) (InA pp') Cu) oP (tJ T.ge.2.1 (fun hh => (T.qn _ hh).2.2.1 rfl) (own' T.ge.2.1 lpk) fun hh => by have := hCu _ hh; omega)
   rw [← mv g []] at this
   exact this
  ·have e : ip g [] = List.replicate (gP g).length false := by
    unfold ip; split
    ·exact Aq _
    ·rfl
   show Row 1 bbV h' q qc (ip g [])
   rw [e]
   refine T21.row.fr fS fun x hx => nS x ?_ ?_
   ·exact T21.row.lt hx
   ·exact (T.qn x hx).2.2.1
  ·rw [hK]; exact Jg (T.qn x hx).1 hx
  ·exact G21.fr fS fun x hx hh => by
    rcases hS x hh with h | h
    ·have := T.ge.2.1; omega
    ·have := G.2.s.1; omega
  ·rw [hK]; exact M
  ·rw [mG lc]; exact tg
  ·have := ow21.fr fS (nS _ (by omega) (by have := T.ge.2.1; omega))
   exact this
  ·exact (R1'.fr f21 fun x hx hh => by
    rcases hn20 x hx with h | h
    ·have := t1 x h; rw [hh, tg] at this; omega
    ·omega).fr fS fun x hx => nS x (by have := R1'.lt hx; omega) fun e => by
     rcases hn20 x hx with h | h
     ·have := lpp x h; have := T.ge.2.1; omega
     ·omega
  ·exact R2.fr Ftot fun x hx hh => by
    have := t2 x hx
    rcases hh with hh | hh
    ·have := t1 x hh; omega
    ·rw [hh, tg] at this; omega
  ·rw [mG (R2.lt hx)]; exact t2 x hx
  ·exact R3.fr Ftot fun x hx hh => by
    have := t3 x hx
    rcases hh with hh | hh
    ·have := t1 x hh; omega
    ·rw [hh, tg] at this; omega
  ·rw [mG (R3.lt hx)]; exact t3 x hx
 have plen : (gP g).length = g.Patterns.xs.length := pV g
 refine aV (T21.o12.cells.at0 rfl) (aS (aC (gc.at (j := 2) rfl) ?_))
 rw [wr (by omega) (by omega)]
 refine ifE (fun e => ?_) fun e => ?_
 ·have e0 : g.Patterns.xs = [] := List.length_eq_zero_iff.1 (by omega)
  obtain ⟨a1, a2, a3⟩ := fin h21 (fun _ => False) xv zz none 0 (fun _ hh => hh.elim) (Fr.refl (fun _ => False) _) (fun _ hh => hh.elim) T21.op (.inl ⟨e0, rfl, rfl⟩)
  exact hk _ _ h21 _ (by simp [e0]) a1 a2 a3
 have hne : g.Patterns.xs ≠ [] := fun e2 => e (by rw [e2]; rfl)
 refine aV (T21.o12.cells.at0 rfl) (aS (aC (gc.at (j := 1) rfl) ?_))
 refine ifE (fun e2 => ?_) fun e2 => ?_
 ·have e0 : g.Transforms.xs = [] := List.length_eq_zero_iff.1 (by omega)
  refine aV (T21.o12.cells.at0 rfl) (aS (aV (G21.1.now.1.at (j := 5) rfl) ?_))
  refine Au.wm G21.2 fun cur h22 f22 hcur C22 => ⟨_, rfl, ?_⟩
  have z22 := f22.size
  refine aZ (vs := [.pointer none]) fun t14 h23 f23 e23 o14 => ?_
  have z23 := f23.size
  have lcur := C22.lt
  refine mL o14 (by show 0 < 1; omega) rfl fun h24 f24 z24 o14' => ?_
  have T24 := ((T21.fr f22 fun x hh => hh.elim).fr f23 fun x hh => hh.elim)
  have o13' := T24.o13.fr f24 (by omega)
  have op' := T24.op.fr f24 (by omega)
  refine aV (o13'.cells.at0 rfl) (aS ?_)
  refine cK op' 2 (by show 2 < 4; omega) rfl fun h25 f25 z25 op25 => ?_
  have z24' := f24.size; have z25' := f25.size
  have F25 : Fr (fun x => x = pk.block ∨ h21.size ≤ x) h21 h25 := ((f22.mono fun _ => False.elim).trans (f23.mono fun _ => False.elim)).trans ((f24.mono fun x hh => .inr (by omega)).trans (f25.mono fun x hh => .inl hh))
  have o13'' := o13'.fr f25 fun hh => T.ne.2.2 hh.symm
  have o14'' := o14'.fr f25 (by omega)
  have t0 : ∀ x, hs.size ≤ x → x < h19.size → ¬ InA q x → sf hs o k (InA q) (InA pp') (fun x => x = cur.block) x = 0 := fun x h1 h2 h3 => tJ h1 h3 (fun hh => by
   rcases hn20 _ hh with h | h
   ·have := lpp _ h; omega
   ·omega) (by omega)
  obtain ⟨a1, a2, a3⟩ := fin h25 (fun x => x = cur.block) (FD t9 t13 t14) zz none 0 (fun x hh => by omega) F25 (fun x hh => hh) op25 (.inr (.inl ⟨hne, e0, rfl, t13, t14, cur, none, rfl, (sq o13'' (t0 _ T.ge.2.2 l13 fun hh => (T.qn _ hh).2.2.2 rfl)).and (sq o14'' (tJ (by omega) (fun hh => by have := T21.row.lt hh; omega) (fun hh => by have := R1'.lt hh; omega) (by omega))),
   ((C22.fr0 f23).fr f24 (by omega) fun x hx => (dR hx).elim).fr f25 (by omega) (fun x hx => (dR hx).elim), JW (by omega) (fun hh => by have := T21.row.lt hh; omega) (fun hh => by have := R1'.lt hh; omega) rfl, fun x hx => (dR hx).elim⟩))
  exact hk _ _ h25 _ (by simp [e0]) a1 a2 a3
 ·have e0 : g.Transforms.xs ≠ [] := fun e3 => e2 (by rw [e3]; rfl)
  refine aV (T21.o13.cells.at0 rfl) (aS ?_)
  refine cK T21.op 3 (by show 3 < 4; omega) rfl fun h26 f26 z26 op26 => ?_
  have o13' := T21.o13.fr f26 fun hh => T.ne.2.2 hh.symm
  have o12' := T21.o12.fr f26 fun hh => T.ne.1 hh
  obtain ⟨a1, a2, a3⟩ := fin h26 (fun _ => False) xv (Id t12 t9 t13) none 0 (fun x hh => hh.elim) f26 (fun x hh => .inl hh) op26 (.inr (.inr ⟨hne, e0, rfl, t12, t13, rfl, (sq o12' (tJ T.ge.1 (fun hh => (T.qn _ hh).2.1 rfl) (own' T.ge.1 l12) id)).and (sq o13' (tJ T.ge.2.2 (fun hh => (T.qn _ hh).2.2.2 rfl) (own' T.ge.2.2 l13) id))⟩))
  exact hk _ _ h26 _ (by simp [hne, e0]) a1 a2 a3
end Go.Proofs.YtjmfpeiidlpngaaGreatDoor
