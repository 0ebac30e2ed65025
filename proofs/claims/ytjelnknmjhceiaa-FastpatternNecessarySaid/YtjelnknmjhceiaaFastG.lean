/-
  Groups in memory: what a step turns.
-/
import Derived.Test.YtjelnknmjhceiaaFastF
namespace Go.Proofs.Ytjelnknmjhceiaa
set_option linter.unusedSimpArgs false
set_option linter.unusedVariables false
set_option maxRecDepth 20000
open Go
theorem add_add0 {a : Addr} (hs : a.spot = none) (m n : Nat) : (a.add m).add n = a.add (m + n) := by
  obtain ⟨b, o, s⟩ := a
  simp only at hs
  subst hs
  rw [add_mk, add_mk, add_mk, Nat.add_assoc]
section
variable {h : Heap} {gs : List Grp} {tr : Nat → Sl Int} {sl : Ix → Option Addr} {cap : Ix → Nat} {cs : Ix → List Value}
theorem GRel.out (G : GRel h gs tr sl cap cs) {i : Nat} (hi : i < gs.length) : ∃ ad, sl xO = some ad ∧ ad.spot = none ∧ Cells h (ad.add (i * 5))
    [.int .i64 gs[i].kind, .slice (tr i).p (tr i).xs.length (tr i).cap, .slice (sl (xP i)) gs[i].pats.length (cap (xP i)), .slice (sl (xR i)) gs[i].rules.length (cap (xR i)), .slice (sl (xA i)) gs[i].always.length (cap (xA i))] := by
  obtain ⟨ad, e, c⟩ := G.fam.some_of (x := xO) (by rw [G.olen]; omega)
  have o := G.fam.own xO
  rw [e] at o
  obtain ⟨_, hs, _⟩ := o
  refine ⟨ad, e, hs, fun j hj => ?_⟩
  have r := G.row i hi
  rw [add_add0 hs]
  refine c.at ?_
  simp only [List.length_cons, List.length_nil] at hj
  match j, hj with
  | 0, _ => exact r.o0
  | 1, _ => exact r.o1
  | 2, _ => exact r.o2
  | 3, _ => exact r.o3
  | 4, _ => exact r.o4
theorem RowG.congr {g : Grp} {i : Nat} {sl' : Ix → Option Addr} {cap' : Ix → Nat} {cs' : Ix → List Value} (r : RowG g i tr sl cap cs) (ho : ∀ j, j < 5 → (cs' xO)[i * 5 + j]? = (cs xO)[i * 5 + j]?)
    (hx : ∀ x : Ix, x.1 ≠ 0 → x.2.1 = i → sl' x = sl x ∧ cap' x = cap x ∧ cs' x = cs x) : RowG g i tr sl' cap' cs' := by
  have hP := hx (xP i) (show (1 : Nat) ≠ 0 by decide) rfl
  have hR := hx (xR i) (show (2 : Nat) ≠ 0 by decide) rfl
  have hA := hx (xA i) (show (4 : Nat) ≠ 0 by decide) rfl
  have hI := fun n => hx (xI i n) (show (3 : Nat) ≠ 0 by decide) rfl
  exact ⟨(ho 0 (by omega)).trans r.o0, (ho 1 (by omega)).trans r.o1, by rw [hP.1, hP.2.1]; exact (ho 2 (by omega)).trans r.o2, by rw [hR.1, hR.2.1]; exact (ho 3 (by omega)).trans r.o3,
    by rw [hA.1, hA.2.1]; exact (ho 4 (by omega)).trans r.o4, r.trx, by rw [hP.2.2]; exact r.pl, by rw [hP.2.1]; exact r.pc, by rw [hR.2.2]; exact r.rl, by rw [hR.2.1]; exact r.rc,
    fun n hn => by rw [hR.2.2, (hI n).1, (hI n).2.1]; exact r.rg n hn, fun n hn => by rw [(hI n).2.2, (hI n).2.1]; exact r.il n hn, fun n hn => by rw [(hI n).1]; exact r.ifr n hn, by rw [hA.2.2]; exact r.al, by rw [hA.2.1]; exact r.ac⟩
/-- What a step leaves of a group's memory: its own family is turned, all else stands. -/
structure Turned (N : Nat) (h h' : Heap) (sl sl' : Ix → Option Addr) : Prop where
  fr : ∀ b, b < h.size → (∀ x, ¬ InA (sl x) b) → h'[b]? = h[b]?
  size : h.size ≤ h'.size
  old : ∀ x b, InA (sl' x) b → (∃ y, InA (sl y) b) ∨ h.size ≤ b
theorem Turned.trans {N : Nat} {h h1 h2 : Heap} {sl sl1 sl2 : Ix → Option Addr} (a : Turned N h h1 sl sl1) (b : Turned N h1 h2 sl1 sl2) : Turned N h h2 sl sl2 := by
  refine ⟨fun x hx hn => ?_, Nat.le_trans a.size b.size, fun x y hy => ?_⟩
  · rw [b.fr x (by have := a.size; omega) (fun z hz => ?_), a.fr x hx hn]
    rcases a.old z x hz with ⟨y, hy⟩ | hy
    · exact hn y hy
    · omega
  · rcases b.old x y hy with ⟨z, hz⟩ | hz
    · exact a.old z y hz
    · have := a.size; exact .inr (by omega)
theorem Turned.refl {N : Nat} (h : Heap) (sl : Ix → Option Addr) : Turned N h h sl sl := ⟨fun _ _ _ => rfl, Nat.le_refl _, fun x _ hb => .inl ⟨x, hb⟩⟩
theorem Turned.of_fr {N : Nat} {h h' : Heap} {sl : Ix → Option Addr} (f : Fr (fun _ => False) h h') : Turned N h h' sl sl := ⟨fun b hb _ => f.same b hb id, f.size, fun x _ hb => .inl ⟨x, hb⟩⟩
theorem Turned.of_app {N : Nat} {h h' : Heap} {sl : Ix → Option Addr} {x : Ix} {a' : Option Addr} (f : Fr (InA (sl x)) h h') (hn : ∀ b, InA a' b → InA (sl x) b ∨ h.size ≤ b) : Turned N h h' sl (put sl x a') :=
  ⟨fun b hb hs => f.same b hb (hs x), f.size, fun y b hb => by
    by_cases e : y = x
    · subst e; rw [put_self] at hb
      rcases hn b hb with hb | hb
      · exact .inl ⟨_, hb⟩
      · exact .inr hb
    · rw [put_ne _ _ e] at hb; exact .inl ⟨_, hb⟩⟩
theorem Turned.of_set {N : Nat} {h h' : Heap} {sl : Ix → Option Addr} {x : Ix} (f : Fr (InA (sl x)) h h') : Turned N h h' sl sl :=
  ⟨fun b hb hs => f.same b hb (hs x), f.size, fun y b hb => .inl ⟨y, hb⟩⟩
theorem Turned.frS {N : Nat} {h h' : Heap} {sl sl' : Ix → Option Addr} (t : Turned N h h' sl sl') : Fr (fun b => ∃ x, InA (sl x) b) h h' :=
  ⟨t.size, fun b hb hn => t.fr b hb fun x hx => hn ⟨x, hx⟩⟩
theorem IntsOk.lt {s : Sl Int} (o : IntsOk h s) (hx : s.xs ≠ []) {b : Nat} (hb : InA s.p b) : b < h.size := by
  obtain ⟨ad, e, rfl⟩ := hb
  have : 0 < s.xs.length := List.length_pos_iff.2 hx
  obtain ⟨ad', e', hc⟩ := o.at this
  rw [e] at e'; cases e'
  have := hcell_lt hc
  rw [add_block] at this; exact this
theorem IntsOk.turn {N : Nat} {h' : Heap} {s : Sl Int} {sl' : Ix → Option Addr} (o : IntsOk h s) (t : Turned N h h' sl sl') (ha : s.xs ≠ [] → ∀ x b, InA s.p b → ¬ InA (sl x) b) :
    IntsOk h' s ∧ (s.xs ≠ [] → ∀ x b, InA s.p b → ¬ InA (sl' x) b) := by
  by_cases hx : s.xs = []
  · exact ⟨⟨o.len, o.cap, fun i hi => by rw [hx] at hi; simp at hi⟩, fun h => absurd hx h⟩
  · refine ⟨IntsOk.fr o t.frS fun b hb ⟨x, hi⟩ => ha hx x b hb hi, fun _ x b hb hi => ?_⟩
    rcases t.old x b hi with ⟨y, hy⟩ | hy
    · exact ha hx y b hb hy
    · have := o.lt hx hb; omega
theorem GRel.update {N : Nat} (G : GRel h gs tr sl cap cs) {i : Nat} (hi : i < gs.length) (f : Grp → Grp) {h' : Heap} {sl' : Ix → Option Addr} {cap' : Ix → Nat} {cs' : Ix → List Value} (F : Fam szG h' sl' cap' cs') (t : Turned N h h' sl sl')
    (hrow : RowG (f gs[i]) i tr sl' cap' cs') (hother : ∀ x : Ix, x.1 ≠ 0 → x.2.1 ≠ i → sl' x = sl x ∧ cap' x = cap x ∧ cs' x = cs x)
    (hcap : cap' xO = cap xO) (hlen : (cs' xO).length = (cs xO).length) (hout : ∀ m, (m < i * 5 ∨ i * 5 + 5 ≤ m) → (cs' xO)[m]? = (cs xO)[m]?) (hkind : (f gs[i]).kind = gs[i].kind) : GRel h' (gs.modify i f) tr sl' cap' cs' := by
  refine ⟨F, by rw [List.length_modify, hlen]; exact G.olen, by rw [List.length_modify, hcap]; exact G.ocap, fun j hj => ?_, fun j hj => ?_, fun j hj => ?_, fun g hg => ?_⟩
  · rw [List.length_modify] at hj
    rw [List.getElem_modify]
    by_cases e : i = j
    · subst e; rw [if_pos rfl]; exact hrow
    · rw [if_neg e]
      refine (G.row j hj).congr (fun m hm => hout _ (by omega)) fun x h0 h1 => hother x h0 (by omega)
  · rw [List.length_modify] at hj
    exact IntsOk.turn (G.trok j hj).1 t (G.trok j hj).2
  · rw [List.length_modify] at hj
    obtain ⟨h1, h2, h3, h4⟩ := G.free j hj
    have o := fun (x : Ix) (h0 : x.1 ≠ 0) (h1 : x.2.1 = j) => (hother x h0 (by omega)).1
    exact ⟨(o (xP j) (show (1 : Nat) ≠ 0 by decide) rfl).trans h1, (o (xR j) (show (2 : Nat) ≠ 0 by decide) rfl).trans h2, (o (xA j) (show (4 : Nat) ≠ 0 by decide) rfl).trans h3, fun n => (o (xI j n) (show (3 : Nat) ≠ 0 by decide) rfl).trans (h4 n)⟩
  · rcases mem_modify hg with hg | ⟨y, hy, e⟩
    · exact G.kok g hg
    · obtain ⟨m, hm, hge⟩ := List.mem_iff_getElem.1 hg
      rw [List.length_modify] at hm
      rw [List.getElem_modify] at hge
      split at hge
      · rename_i e2; subst e2; rw [← hge]; show kOk .i64 h (f gs[i]).kind; rw [hkind]; exact G.kok _ (List.getElem_mem hi)
      · rw [← hge]; exact G.kok _ (List.getElem_mem hm)
theorem ix_ne {a b : Nat} (h : a ≠ b) (i j n m : Nat) : ((a, i, n) : Ix) ≠ (b, j, m) := fun e => h (congrArg Prod.fst e)
theorem ix_ne2 {i j : Nat} (h : i ≠ j) (a b n m : Nat) : ((a, i, n) : Ix) ≠ (b, j, m) := fun e => h (congrArg (fun x : Ix => x.2.1) e)
theorem ix_ne3 {n m : Nat} (h : n ≠ m) (a b i j : Nat) : ((a, i, n) : Ix) ≠ (b, j, m) := fun e => h (congrArg (fun x : Ix => x.2.2) e)
theorem set_out {l : List Value} {i j m : Nat} {v : Value} (hj : j < 5) (hm : m < i * 5 ∨ i * 5 + 5 ≤ m) : (l.set (i * 5 + j) v)[m]? = l[m]? := by
  rw [List.getElem?_set_ne (by omega)]
theorem other_put {α : Type} {f : Ix → α} {a i n : Nat} {v : α} {x : Ix} (h : x.2.1 ≠ i) : put f (a, i, n) v x = f x := put_ne _ _ fun e => h (by rw [e])
theorem zero_put {α : Type} {f : Ix → α} {v : α} {x : Ix} (h : x.1 ≠ 0) : put f xO v x = f x := put_ne _ _ fun e => h (by rw [e])
theorem out_put {α : Type} {f : Ix → α} {a i n : Nat} {v : α} (h : a ≠ 0) : put f (a, i, n) v xO = f xO := put_ne _ _ fun e => h (congrArg Prod.fst e).symm
/-- A rule without a pattern. -/
theorem GRel.always {N : Nat} (G : GRel h gs tr sl cap cs) {i : Nat} (hi : i < gs.length) (k : Nat) {a' : Option Addr} {cap' : Nat} {h' : Heap} (hc : gs[i].always.length + 1 ≤ cap')
    (F : Fam szG h' (put sl (xA i) a') (put cap (xA i) cap') (put (put cs (xA i) (cs (xA i) ++ [.int .i64 k])) xO ((put cs (xA i) (cs (xA i) ++ [.int .i64 k]) xO).set (i * 5 + 4) (.slice a' (gs[i].always.length + 1) cap'))))
    (t : Turned N h h' sl (put sl (xA i) a')) : GRel h' (gs.modify i fun g => { g with always := g.always ++ [(k : Int)] }) tr (put sl (xA i) a') (put cap (xA i) cap') (put (put cs (xA i) (cs (xA i) ++ [.int .i64 k])) xO ((put cs (xA i) (cs (xA i) ++ [.int .i64 k]) xO).set (i * 5 + 4) (.slice a' (gs[i].always.length + 1) cap'))) := by
  have r := G.row i hi
  have hlen := G.olen
  have eo : put cs (xA i) (cs (xA i) ++ [.int .i64 k]) xO = cs xO := out_put (by decide)
  rw [eo] at F ⊢
  refine G.update hi _ F t ?_ (fun x h0 h1 => ⟨other_put h1, other_put h1, by rw [zero_put h0, other_put h1]⟩) (out_put (by decide)) (by rw [put_self, List.length_set]) (fun m hm => by rw [put_self, set_out (by omega) hm]) rfl
  have nP : (xP i) ≠ xA i := ix_ne (by decide) _ _ _ _
  have nR : (xR i) ≠ xA i := ix_ne (by decide) _ _ _ _
  have nI : ∀ n, (xI i n) ≠ xA i := fun n => ix_ne (by decide) _ _ _ _
  have zP : (xP i) ≠ xO := ix_ne (by decide) _ _ _ _
  have zR : (xR i) ≠ xO := ix_ne (by decide) _ _ _ _
  have zA : (xA i) ≠ xO := ix_ne (by decide) _ _ _ _
  have zI : ∀ n, (xI i n) ≠ xO := fun n => ix_ne (by decide) _ _ _ _
  constructor <;> (try simp only [put_self, put_ne _ _ nP, put_ne _ _ nR, put_ne _ _ (nI _), put_ne _ _ zP, put_ne _ _ zR, put_ne _ _ zA, put_ne _ _ (zI _)])
  · rw [List.getElem?_set_ne (by omega)]; exact r.o0
  · rw [List.getElem?_set_ne (by omega)]; exact r.o1
  · rw [List.getElem?_set_ne (by omega)]; exact r.o2
  · rw [List.getElem?_set_ne (by omega)]; exact r.o3
  · rw [List.getElem?_set_self (by omega)]; simp
  · exact r.trx
  · exact r.pl
  · exact r.pc
  · exact r.rl
  · exact r.rc
  · exact r.rg
  · exact r.il
  · exact r.ifr
  · rw [r.al]; simp [intsV]
  · simpa using hc
/-- One more rule of a pattern. -/
theorem GRel.inner {N : Nat} (G : GRel h gs tr sl cap cs) {i : Nat} (hi : i < gs.length) {n : Nat} (hn : n < gs[i].rules.length) (k : Nat) {a' : Option Addr} {cap' : Nat} {h' : Heap} (hc : gs[i].rules[n].length + 1 ≤ cap')
    (F : Fam szG h' (put sl (xI i n) a') (put cap (xI i n) cap') (put (put cs (xI i n) (cs (xI i n) ++ [.int .i64 k])) (xR i) ((put cs (xI i n) (cs (xI i n) ++ [.int .i64 k]) (xR i)).set n (.slice a' (gs[i].rules[n].length + 1) cap'))))
    (t : Turned N h h' sl (put sl (xI i n) a')) : GRel h' (gs.modify i fun g => { g with rules := g.rules.modify n (· ++ [(k : Int)]) }) tr (put sl (xI i n) a') (put cap (xI i n) cap')
      (put (put cs (xI i n) (cs (xI i n) ++ [.int .i64 k])) (xR i) ((put cs (xI i n) (cs (xI i n) ++ [.int .i64 k]) (xR i)).set n (.slice a' (gs[i].rules[n].length + 1) cap'))) := by
  have r := G.row i hi
  have eo : put cs (xI i n) (cs (xI i n) ++ [.int .i64 k]) (xR i) = cs (xR i) := put_ne _ _ (ix_ne (by decide) _ _ _ _)
  rw [eo] at F ⊢
  refine G.update hi _ F t ?_ (fun x h0 h1 => ⟨other_put h1, other_put h1, by rw [other_put h1, other_put h1]⟩) (out_put (by decide)) (by rw [out_put (by decide), out_put (by decide)]) (fun m hm => by rw [out_put (by decide), out_put (by decide)]) rfl
  have nP : (xP i) ≠ xI i n := ix_ne (by decide) _ _ _ _
  have nR : (xR i) ≠ xI i n := ix_ne (by decide) _ _ _ _
  have nA : (xA i) ≠ xI i n := ix_ne (by decide) _ _ _ _
  have nO : xO ≠ xI i n := ix_ne (by decide) _ _ _ _
  have zP : (xP i) ≠ xR i := ix_ne (by decide) _ _ _ _
  have zA : (xA i) ≠ xR i := ix_ne (by decide) _ _ _ _
  have zI : ∀ n, (xI i n) ≠ xR i := fun n => ix_ne (by decide) _ _ _ _
  have zO : xO ≠ xR i := ix_ne (by decide) _ _ _ _
  have rl := r.rl
  constructor <;> (try simp only [put_self, put_ne _ _ nP, put_ne _ _ nR, put_ne _ _ nA, put_ne _ _ nO, put_ne _ _ zP, put_ne _ _ zA, put_ne _ _ (zI _), put_ne _ _ zO, List.length_modify, List.length_set])
  · exact r.o0
  · exact r.o1
  · exact r.o2
  · exact r.o3
  · exact r.o4
  · exact r.trx
  · exact r.pl
  · exact r.pc
  · exact r.rl
  · exact r.rc
  · intro m hm
    rw [List.getElem_modify]
    by_cases e : n = m
    · subst e; rw [if_pos rfl, put_self, put_self, List.getElem?_set_self (by omega)]; simp
    · rw [if_neg e, List.getElem?_set_ne e, put_ne _ _ (ix_ne3 (fun x => e x.symm) _ _ _ _), put_ne _ _ (ix_ne3 (fun x => e x.symm) _ _ _ _)]; exact r.rg m hm
  · intro m hm
    rw [List.getElem_modify]
    by_cases e : n = m
    · subst e; rw [if_pos rfl, put_self, put_self, (r.il n hn).1]; exact ⟨by simp [intsV], by simpa using hc⟩
    · rw [if_neg e, put_ne _ _ (ix_ne3 (fun x => e x.symm) _ _ _ _), put_ne _ _ (ix_ne3 (fun x => e x.symm) _ _ _ _)]; exact r.il m hm
  · intro m hm
    rw [put_ne _ _ (ix_ne3 (by omega) _ _ _ _)]; exact r.ifr m hm
  · exact r.al
  · exact r.ac
/-- A new pattern, whose rules are none yet. -/
theorem GRel.pattern {N : Nat} (G : GRel h gs tr sl cap cs) {i : Nat} (hi : i < gs.length) (p : List UInt8 × Bool) {a1 a2 : Option Addr} {c1 c2 : Nat} {h' : Heap} (hc1 : gs[i].pats.length + 1 ≤ c1) (hc2 : gs[i].rules.length + 1 ≤ c2)
    {cs' : Ix → List Value} (e0 : cs' xO = ((cs xO).set (i * 5 + 2) (.slice a1 (gs[i].pats.length + 1) c1)).set (i * 5 + 3) (.slice a2 (gs[i].rules.length + 1) c2))
    (e1 : cs' (xP i) = cs (xP i) ++ [.string (bs p.1), .bool p.2]) (e2 : cs' (xR i) = cs (xR i) ++ [.slice none 0 0]) (e3 : ∀ x : Ix, x ≠ xO → x ≠ xP i → x ≠ xR i → cs' x = cs x)
    (F : Fam szG h' (put (put sl (xP i) a1) (xR i) a2) (put (put cap (xP i) c1) (xR i) c2) cs') (t : Turned N h h' sl (put (put sl (xP i) a1) (xR i) a2)) :
    GRel h' (gs.modify i fun g => { g with pats := g.pats ++ [p], rules := g.rules ++ [[]] }) tr (put (put sl (xP i) a1) (xR i) a2) (put (put cap (xP i) c1) (xR i) c2) cs' := by
  have r := G.row i hi
  have hlen := G.olen
  refine G.update hi _ F t ?_ (fun x h0 h1 => ⟨by rw [other_put h1, other_put h1], by rw [other_put h1, other_put h1], e3 x (fun e => h0 (by rw [e])) (fun e => h1 (by rw [e])) (fun e => h1 (by rw [e]))⟩) (by rw [out_put (by decide), out_put (by decide)]) (by rw [e0, List.length_set, List.length_set])
    (fun m hm => by rw [e0, set_out (by omega) hm, set_out (by omega) hm]) rfl
  have nPR : (xP i) ≠ xR i := ix_ne (by decide) _ _ _ _
  have nAP : (xA i) ≠ xP i := ix_ne (by decide) _ _ _ _
  have nAR : (xA i) ≠ xR i := ix_ne (by decide) _ _ _ _
  have nIP : ∀ n, (xI i n) ≠ xP i := fun n => ix_ne (by decide) _ _ _ _
  have nIR : ∀ n, (xI i n) ≠ xR i := fun n => ix_ne (by decide) _ _ _ _
  have eA := e3 (xA i) (ix_ne (by decide) _ _ _ _) nAP nAR
  have eI := fun n => e3 (xI i n) (ix_ne (by decide) _ _ _ _) (nIP n) (nIR n)
  have rl := r.rl
  have hfree := r.ifr gs[i].rules.length (Nat.le_refl _)
  have hnone := G.fam.none hfree
  constructor <;> (try simp only [e0, e1, e2, eA, eI, put_self, put_ne _ _ nPR, put_ne _ _ nAP, put_ne _ _ nAR, put_ne _ _ (nIP _), put_ne _ _ (nIR _), List.length_append, List.length_cons, List.length_nil])
  · rw [List.getElem?_set_ne (by omega), List.getElem?_set_ne (by omega)]; exact r.o0
  · rw [List.getElem?_set_ne (by omega), List.getElem?_set_ne (by omega)]; exact r.o1
  · rw [List.getElem?_set_ne (by omega), List.getElem?_set_self (by omega)]
  · rw [List.getElem?_set_self (by rw [List.length_set]; omega)]
  · rw [List.getElem?_set_ne (by omega), List.getElem?_set_ne (by omega)]; exact r.o4
  · exact r.trx
  · rw [r.pl]; simp
  · exact hc1
  · omega
  · exact hc2
  · intro n hn
    by_cases e : n < gs[i].rules.length
    · rw [List.getElem?_append_left (by omega), List.getElem_append_left e]; exact r.rg n e
    · have : n = gs[i].rules.length := by omega
      subst this
      rw [List.getElem?_append_right (by omega), List.getElem_append_right (Nat.le_refl _), hfree, hnone.2]
      simp [rl]
  · intro n hn
    by_cases e : n < gs[i].rules.length
    · rw [List.getElem_append_left e]; exact r.il n e
    · have : n = gs[i].rules.length := by omega
      subst this
      rw [List.getElem_append_right (Nat.le_refl _), hnone.1]
      simp
  · intro n hn; exact r.ifr n (by omega)
  · exact r.al
  · exact r.ac
/-- A new group. -/
theorem GRel.push {N : Nat} (G : GRel h gs tr sl cap cs) (kind : Int) (hkind : kOk .i64 h kind) (T : Sl Int) {a' : Option Addr} {c' : Nat} {h' : Heap} (hc : gs.length + 1 ≤ c')
    (F : Fam szG h' (put sl xO a') (put cap xO c') (put cs xO (cs xO ++ [.int .i64 kind, .slice T.p T.xs.length T.cap, .slice none 0 0, .slice none 0 0, .slice none 0 0]))) (t : Turned N h h' sl (put sl xO a'))
    (hT : IntsOk h' T) (hTa : T.xs ≠ [] → ∀ x b, InA T.p b → ¬ InA (put sl xO a' x) b) :
    GRel h' (gs ++ [⟨kind, T.xs, [], [], []⟩]) (put tr gs.length T) (put sl xO a') (put cap xO c') (put cs xO (cs xO ++ [.int .i64 kind, .slice T.p T.xs.length T.cap, .slice none 0 0, .slice none 0 0, .slice none 0 0])) := by
  have hlen := G.olen
  refine ⟨F, by rw [put_self, List.length_append, hlen, List.length_append]; simp; omega, by rw [put_self, List.length_append]; simpa using hc, fun j hj => ?_, fun j hj => ?_, fun j hj => ?_, fun g hg => ?_⟩
  · rw [List.length_append, List.length_singleton] at hj
    by_cases e : j < gs.length
    · rw [List.getElem_append_left e]
      have r := (G.row j e).congr (sl' := put sl xO a') (cap' := put cap xO c') (cs' := put cs xO (cs xO ++ [.int .i64 kind, .slice T.p T.xs.length T.cap, .slice none 0 0, .slice none 0 0, .slice none 0 0]))
        (fun m hm => by rw [put_self, List.getElem?_append_left (by omega)]) fun x h0 h1 => ⟨zero_put h0, zero_put h0, zero_put h0⟩
      have e2 : put tr gs.length T j = tr j := put_ne _ _ (by omega)
      exact ⟨r.o0, by rw [e2]; exact r.o1, r.o2, r.o3, r.o4, by rw [e2]; exact r.trx, r.pl, r.pc, r.rl, r.rc, r.rg, r.il, r.ifr, r.al, r.ac⟩
    · have e : j = gs.length := by omega
      subst e
      rw [List.getElem_append_right (Nat.le_refl _)]
      simp only [Nat.sub_self, List.getElem_cons_zero]
      obtain ⟨h1, h2, h3, h4⟩ := G.free gs.length (Nat.le_refl _)
      have n1 := G.fam.none h1
      have n2 := G.fam.none h2
      have n3 := G.fam.none h3
      have zP : (xP gs.length) ≠ xO := ix_ne (by decide) _ _ _ _
      have zR : (xR gs.length) ≠ xO := ix_ne (by decide) _ _ _ _
      have zA : (xA gs.length) ≠ xO := ix_ne (by decide) _ _ _ _
      have zI : ∀ n, (xI gs.length n) ≠ xO := fun n => ix_ne (by decide) _ _ _ _
      constructor <;> (try simp only [put_self, put_ne _ _ zP, put_ne _ _ zR, put_ne _ _ zA, put_ne _ _ (zI _), h1, h2, h3, h4, n1, n2, n3, List.length_nil])
      · rw [List.getElem?_append_right (by omega), hlen]; simp
      · rw [List.getElem?_append_right (by omega), hlen, show gs.length * 5 + 1 - gs.length * 5 = 1 by omega]; rfl
      · rw [List.getElem?_append_right (by omega), hlen, show gs.length * 5 + 2 - gs.length * 5 = 2 by omega]; rfl
      · rw [List.getElem?_append_right (by omega), hlen, show gs.length * 5 + 3 - gs.length * 5 = 3 by omega]; rfl
      · rw [List.getElem?_append_right (by omega), hlen, show gs.length * 5 + 4 - gs.length * 5 = 4 by omega]; rfl
      · rfl
      · exact Nat.le_refl _
      · exact Nat.le_refl _
      · intro n hn; exact absurd hn (Nat.not_lt_zero _)
      · intro n hn; exact absurd hn (Nat.not_lt_zero _)
      · intro n _; trivial
      · rfl
      · exact Nat.le_refl _
  · rw [List.length_append, List.length_singleton] at hj
    by_cases e : j < gs.length
    · have e2 : put tr gs.length T j = tr j := put_ne _ _ (by omega)
      rw [e2]
      exact IntsOk.turn (G.trok j e).1 t (G.trok j e).2
    · have e : j = gs.length := by omega
      rw [e, put_self]
      exact ⟨hT, hTa⟩
  · rw [List.length_append, List.length_singleton] at hj
    obtain ⟨h1, h2, h3, h4⟩ := G.free j (by omega)
    exact ⟨(zero_put (show (1 : Nat) ≠ 0 by decide)).trans h1, (zero_put (show (2 : Nat) ≠ 0 by decide)).trans h2, (zero_put (show (4 : Nat) ≠ 0 by decide)).trans h3, fun n => (zero_put (show (3 : Nat) ≠ 0 by decide)).trans (h4 n)⟩
  · rcases List.mem_append.1 hg with hg | hg
    · exact G.kok g hg
    · rw [List.mem_singleton.1 hg]; exact hkind
end
end Go.Proofs.Ytjelnknmjhceiaa
