/-
  Groups of rules: what they are, and how they lie in memory.
-/
import Derived.Test.YtjelnknmjhceiaaFastE
import Derived.Test.YtjelnknmjhceiaaFam
namespace Go.Proofs.Ytjelnknmjhceiaa
set_option linter.unusedSimpArgs false
set_option linter.unusedVariables false
set_option maxRecDepth 20000
open Go
abbrev Ru := S_api_Rule
abbrev intsV (l : List Int) : List Value := l.map fun n => Value.int .i64 n
abbrev IntsOk (h : Heap) (s : Sl Int) : Prop := SlOk 1 (fun n : Int => [Value.int .i64 n]) (kOk .i64) h s
structure Grp where
  kind : Int
  tr : List Int
  pats : List (List UInt8 × Bool)
  rules : List (List Int)
  always : List Int
def addG (k : Nat) (r : Ru) (g : Grp) : Grp :=
  match patL r.Contents.xs with
  | none => { g with always := g.always ++ [(k : Int)] }
  | some p =>
    if g.pats.findIdx (· == p) = g.pats.length then { g with pats := g.pats ++ [p], rules := g.rules ++ [[(k : Int)]] }
    else { g with rules := g.rules.modify (g.pats.findIdx (· == p)) (· ++ [(k : Int)]) }
def fitsG (r : Ru) (g : Grp) : Bool := g.kind == r.Kind && g.tr == r.Transforms.xs
def seatG (r : Ru) (gs : List Grp) : List Grp := if gs.findIdx (fitsG r) = gs.length then gs ++ [⟨r.Kind, r.Transforms.xs, [], [], []⟩] else gs
def addR (k : Nat) (r : Ru) (gs : List Grp) : List Grp := (seatG r gs).modify (gs.findIdx (fitsG r)) (addG k r)
def groupsGo : List Ru → Nat → List Grp → List Grp
  | [], _, gs => gs
  | r :: l, k, gs => groupsGo l (k + 1) (addR k r gs)
def groupsL (l : List Ru) : List Grp := groupsGo l 0 []
/-- No list of groups is longer than the rules that were put in. -/
structure Small (k : Nat) (gs : List Grp) : Prop where
  len : gs.length ≤ k
  g : ∀ g ∈ gs, g.pats.length ≤ k ∧ g.rules.length = g.pats.length ∧ g.always.length ≤ k ∧ ∀ l ∈ g.rules, l.length ≤ k
theorem Small.mono {k m : Nat} {gs : List Grp} (s : Small k gs) (h : k ≤ m) : Small m gs :=
  ⟨Nat.le_trans s.len h, fun g hg => by obtain ⟨h1, h2, h3, h4⟩ := s.g g hg; exact ⟨by omega, h2, by omega, fun l hl => Nat.le_trans (h4 l hl) h⟩⟩
theorem mem_modify {α : Type} {f : α → α} : ∀ {l : List α} {i : Nat} {x : α}, x ∈ l.modify i f → x ∈ l ∨ ∃ y ∈ l, x = f y
  | [], i, x, h => by simp at h
  | a :: l, 0, x, h => by
    rw [List.modify_zero_cons] at h
    rcases List.mem_cons.1 h with rfl | h
    · exact .inr ⟨a, by simp, rfl⟩
    · exact .inl (by simp [h])
  | a :: l, i + 1, x, h => by
    rw [List.modify_succ_cons] at h
    rcases List.mem_cons.1 h with rfl | h
    · exact .inl (by simp)
    · rcases mem_modify h with h | ⟨y, hy, e⟩
      · exact .inl (by simp [h])
      · exact .inr ⟨y, by simp [hy], e⟩
theorem Small.add {k : Nat} {gs : List Grp} (s : Small k gs) (r : Ru) : Small (k + 1) (addR k r gs) := by
  have hs : ∀ g ∈ seatG r gs, g.pats.length ≤ k ∧ g.rules.length = g.pats.length ∧ g.always.length ≤ k ∧ ∀ l ∈ g.rules, l.length ≤ k := by
    intro g hg
    unfold seatG at hg
    split at hg
    · rcases List.mem_append.1 hg with hg | hg
      · exact s.g g hg
      · rw [List.mem_singleton.1 hg]; simp
    · exact s.g g hg
  refine ⟨?_, fun g hg => ?_⟩
  · unfold addR seatG; rw [List.length_modify]; split
    · rw [List.length_append]; have := s.len; simp; omega
    · have := s.len; omega
  · rcases mem_modify hg with hg | ⟨y, hy, rfl⟩
    · obtain ⟨h1, h2, h3, h4⟩ := hs g hg
      exact ⟨by omega, h2, by omega, fun l hl => by have := h4 l hl; omega⟩
    · obtain ⟨h1, h2, h3, h4⟩ := hs y hy
      unfold addG
      split
      · exact ⟨by simp only; omega, h2, by simp; omega, fun l hl => by have := h4 l hl; omega⟩
      · split
        · refine ⟨by simp; omega, by simp [h2], by simp only; omega, fun l hl => ?_⟩
          rcases List.mem_append.1 hl with hl | hl
          · have := h4 l hl; omega
          · rw [List.mem_singleton.1 hl]; simp
        · refine ⟨by simp only; omega, by simp [h2], by simp only; omega, fun l hl => ?_⟩
          rcases mem_modify hl with hl | ⟨z, hz, rfl⟩
          · have := h4 l hl; omega
          · have := h4 z hz; simp; omega
/-! ### In memory -/
abbrev Ix := Nat × Nat × Nat
abbrev xO : Ix := (0, 0, 0)
abbrev xP (i : Nat) : Ix := (1, i, 0)
abbrev xR (i : Nat) : Ix := (2, i, 0)
abbrev xI (i n : Nat) : Ix := (3, i, n)
abbrev xA (i : Nat) : Ix := (4, i, 0)
def szG (x : Ix) : Nat := if x.1 = 0 then 5 else if x.1 = 1 then 2 else 1
structure RowG (g : Grp) (i : Nat) (tr : Nat → Sl Int) (sl : Ix → Option Addr) (cap : Ix → Nat) (cs : Ix → List Value) : Prop where
  o0 : (cs xO)[i * 5]? = some (.int .i64 g.kind)
  o1 : (cs xO)[i * 5 + 1]? = some (.slice (tr i).p (tr i).xs.length (tr i).cap)
  o2 : (cs xO)[i * 5 + 2]? = some (.slice (sl (xP i)) g.pats.length (cap (xP i)))
  o3 : (cs xO)[i * 5 + 3]? = some (.slice (sl (xR i)) g.rules.length (cap (xR i)))
  o4 : (cs xO)[i * 5 + 4]? = some (.slice (sl (xA i)) g.always.length (cap (xA i)))
  trx : (tr i).xs = g.tr
  pl : cs (xP i) = g.pats.flatMap fun p => [Value.string (bs p.1), Value.bool p.2]
  pc : g.pats.length ≤ cap (xP i)
  rl : (cs (xR i)).length = g.rules.length
  rc : g.rules.length ≤ cap (xR i)
  rg : ∀ n (hn : n < g.rules.length), (cs (xR i))[n]? = some (.slice (sl (xI i n)) g.rules[n].length (cap (xI i n)))
  il : ∀ n (hn : n < g.rules.length), cs (xI i n) = intsV g.rules[n] ∧ g.rules[n].length ≤ cap (xI i n)
  ifr : ∀ n, g.rules.length ≤ n → sl (xI i n) = none
  al : cs (xA i) = intsV g.always
  ac : g.always.length ≤ cap (xA i)
structure GRel (h : Heap) (gs : List Grp) (tr : Nat → Sl Int) (sl : Ix → Option Addr) (cap : Ix → Nat) (cs : Ix → List Value) : Prop where
  fam : Fam szG h sl cap cs
  olen : (cs xO).length = gs.length * 5
  ocap : gs.length ≤ cap xO
  row : ∀ i (hi : i < gs.length), RowG gs[i] i tr sl cap cs
  trok : ∀ i, i < gs.length → IntsOk h (tr i) ∧ ((tr i).xs ≠ [] → ∀ x b, InA (tr i).p b → ¬ InA (sl x) b)
  free : ∀ i, gs.length ≤ i → sl (xP i) = none ∧ sl (xR i) = none ∧ sl (xA i) = none ∧ ∀ n, sl (xI i n) = none
  kok : ∀ g ∈ gs, kOk .i64 h g.kind
theorem GRel.fr {h h' : Heap} {gs : List Grp} {tr : Nat → Sl Int} {sl : Ix → Option Addr} {cap : Ix → Nat} {cs : Ix → List Value} (g : GRel h gs tr sl cap cs) (f : Fr (fun _ => False) h h') : GRel h' gs tr sl cap cs :=
  ⟨g.fam.fr0 f, g.olen, g.ocap, g.row, fun i hi => ⟨SlOk.fr0 fr_c f (g.trok i hi).1, (g.trok i hi).2⟩, g.free, g.kok⟩
theorem GRel.nil (h : Heap) : GRel h [] (fun _ => ⟨none, 0, []⟩) (fun _ => none) (fun _ => 0) (fun _ => []) :=
  ⟨⟨fun _ => ⟨rfl, rfl⟩, fun _ _ b hb => by obtain ⟨_, h, _⟩ := hb; cases h⟩, rfl, Nat.le_refl _, fun i hi => absurd hi (Nat.not_lt_zero _), fun i hi => absurd hi (Nat.not_lt_zero _), fun _ _ => ⟨rfl, rfl, rfl, fun _ => rfl⟩, fun g hg => by cases hg⟩
theorem inA_none {b : Nat} : ¬ InA none b := by rintro ⟨_, h, _⟩; cases h
theorem IntsOk.at {h : Heap} {s : Sl Int} (o : IntsOk h s) {i : Nat} (hi : i < s.xs.length) : ∃ ad, s.p = some ad ∧ hcell h (ad.add (i * 1)) = some (.int .i64 s.xs[i]) := by
  obtain ⟨ad, h1, h2, _⟩ := o.at_ i hi; exact ⟨ad, h1, h2.at0 rfl⟩
theorem IntsOk.fr {S : Nat → Prop} {h h' : Heap} {s : Sl Int} (o : IntsOk h s) (f : Fr S h h') (hs : ∀ b, InA s.p b → ¬ S b) : IntsOk h' s :=
  ⟨o.len, o.cap, fun i hi => by
    obtain ⟨ad, h1, h2, h3⟩ := o.at_ i hi
    exact ⟨ad, h1, h2.fr f (by rw [add_block]; exact hs _ ⟨ad, h1, rfl⟩), h3⟩⟩
theorem equal_c [Gh] (a b : Sl Int) {h : Heap} (oa : IntsOk h a) (ob : IntsOk h b) (hl : b.xs.length < 2 ^ 60) {Q : Value → Heap → Prop} (hk : Q (.bool (a.xs == b.xs)) h) :
    CallT Try.prog fn_slices_Equal_int_int #[.slice a.p a.xs.length a.cap, .slice b.p b.xs.length b.cap] h Q := by
  apply slices_Equal_int_int_s
  unfold slices_Equal_int_int_v
  refine ifNe (fun hne => ?_) (fun heq => ?_)
  · have : (a.xs == b.xs) = false := by rw [beq_eq_false_iff_ne]; intro e; apply hne; rw [e]
    rw [this] at hk; exact hk
  have hlen : a.xs.length = b.xs.length := by omega
  refine LoopV.mk (fun i h' => h' = h ∧ ∃ k : Nat, i = k ∧ k ≤ a.xs.length ∧ a.xs.take k = b.xs.take k) (fun i _ => a.xs.length - i.toNat) ⟨rfl, 0, rfl, by omega, by simp⟩ ?_
  rintro i h' ⟨rfl, k, rfl, hkl, hpre⟩
  unfold slices_Equal_int_int_l1
  refine ifD (fun hlt => ?_) (fun hge => ?_)
  · have hka : k < a.xs.length := by omega
    have hkb : k < b.xs.length := by omega
    obtain ⟨ad, ea, ca⟩ := oa.at hka
    obtain ⟨bd, eb, cb⟩ := ob.at hkb
    rw [ea, eb, Int.toNat_natCast]
    refine idxA_mk k rfl hka (nn_mk (ldI_mk ca ?_))
    refine idxA_mk k rfl hkb (nn_mk (ldI_mk cb ?_))
    refine ifNe (fun hne => ?_) (fun heq => ?_)
    · have : (a.xs == b.xs) = false := by
        rw [beq_eq_false_iff_ne]; intro e; apply hne
        simp only [e]
      rw [this] at hk; exact hk
    · rw [wr (by omega) (by omega)]
      refine ⟨⟨rfl, k + 1, by omega, by omega, ?_⟩, by omega⟩
      rw [List.take_succ_eq_append_getElem hka, List.take_succ_eq_append_getElem hkb, hpre, heq]
  · have e1 : k = a.xs.length := by omega
    have : (a.xs == b.xs) = true := by
      rw [beq_iff_eq]
      rw [e1, List.take_length] at hpre
      rw [hlen, List.take_length] at hpre; exact hpre
    rw [this] at hk; exact hk
theorem ints_c [Gh] (a b : Sl Int) {h : Heap} (oa : IntsOk h a) (ob : IntsOk h b) (hl : b.xs.length < 2 ^ 60) {Q : Value → Heap → Prop} (hk : Q (.bool (a.xs == b.xs)) h) :
    CallT Try.prog fn_ref46_ints #[.slice a.p a.xs.length a.cap, .slice b.p b.xs.length b.cap] h Q := by
  apply ref46_ints_s
  unfold ref46_ints_v
  refine ifNe (fun hne => ?_) (fun heq => ?_)
  · have : (a.xs == b.xs) = false := by rw [beq_eq_false_iff_ne]; intro e; apply hne; rw [e]
    rw [this] at hk; exact hk
  have hlen : a.xs.length = b.xs.length := by omega
  refine LoopV.mk (fun i h' => h' = h ∧ ∃ k : Nat, i = k ∧ k ≤ a.xs.length ∧ a.xs.take k = b.xs.take k) (fun i _ => a.xs.length - i.toNat) ⟨rfl, 0, rfl, by omega, by simp⟩ ?_
  rintro i h' ⟨rfl, k, rfl, hkl, hpre⟩
  unfold ref46_ints_l1
  refine ifD (fun hlt => ?_) (fun hge => ?_)
  · have hka : k < a.xs.length := by omega
    have hkb : k < b.xs.length := by omega
    obtain ⟨ad, ea, ca⟩ := oa.at hka
    obtain ⟨bd, eb, cb⟩ := ob.at hkb
    rw [ea, eb, Int.toNat_natCast]
    refine idxA_mk k rfl hka (nn_mk (ldI_mk ca ?_))
    refine idxA_mk k rfl hkb (nn_mk (ldI_mk cb ?_))
    refine ifNe (fun hne => ?_) (fun heq => ?_)
    · have : (a.xs == b.xs) = false := by
        rw [beq_eq_false_iff_ne]; intro e; apply hne
        simp only [e]
      rw [this] at hk; exact hk
    · rw [wr (by omega) (by omega)]
      refine ⟨⟨rfl, k + 1, by omega, by omega, ?_⟩, by omega⟩
      rw [List.take_succ_eq_append_getElem hka, List.take_succ_eq_append_getElem hkb, hpre, heq]
  · have e1 : k = a.xs.length := by omega
    have : (a.xs == b.xs) = true := by
      rw [beq_iff_eq]
      rw [e1, List.take_length] at hpre
      rw [hlen, List.take_length] at hpre; exact hpre
    rw [this] at hk; exact hk
theorem el_int : ElemT Try.prog T_sl_int T_int Try.t3 (.int .i64 0) := ⟨Try.underlying27, by kernel_rfl, by kernel_rfl, by kernel_rfl, by decide⟩
theorem cells_ints {h : Heap} {s : Sl Int} (o : IntsOk h s) {ad : Addr} (hp : s.p = some ad) : Cells h ad (intsV s.xs) := by
  intro j hj
  obtain ⟨bd, e, c⟩ := o.at (i := j) (by simpa using hj)
  rw [hp] at e; cases e
  simpa using c
/-- slices.Clone of numbers: the same numbers, in a new row (or none). -/
theorem sclone_c [Gh] (s : Sl Int) {h : Heap} (o : IntsOk h s) (hl : s.xs.length ≤ 2 ^ 20) {Q : Value → Heap → Prop}
    (hk : ∀ (s' : Sl Int) h', Fr (fun _ => False) h h' → IntsOk h' s' → s'.xs = s.xs → (∀ b, InA s'.p b → h.size ≤ b) → Q (.slice s'.p s'.xs.length s'.cap) h') :
    CallT Try.prog fn_slices_Clone_int_int #[.slice s.p s.xs.length s.cap] h Q := by
  apply slices_Clone_int_int_s
  unfold slices_Clone_int_int_v
  refine ifB (fun hn => ?_) (fun hn => ?_)
  · have hp : s.p = none := by simpa using hn
    have hx : s.xs = [] := by
      cases hs : s.xs with
      | nil => rfl
      | cons x l => obtain ⟨ad, e, _⟩ := o.at (i := 0) (by rw [hs]; simp); rw [hp] at e; cases e
    exact hk ⟨none, 0, []⟩ h (Fr.refl _ _) ⟨Nat.le_refl _, Nat.zero_le _, fun i hi => absurd hi (Nat.not_lt_zero _)⟩ hx.symm (fun b hb => (inA_none hb).elim)
  · obtain ⟨ad, hp⟩ : ∃ ad, s.p = some ad := by cases h : s.p with | none => rw [h] at hn; cases hn | some a => exact ⟨a, rfl⟩
    refine al_mk (vs := []) fun a h1 f1 ha o1 => ?_
    rw [hp]
    have es : (Try.t3).size = 1 := by kernel_rfl
    have eb : (Try.t3).bytes = 8 := by kernel_rfl
    have hc := cells_ints (SlOk.fr0 fr_c f1 o) hp
    refine append_own (a := some a) (cap := 0) el_int Try.underlying27 (by intro k e; cases e) (n := 0) (cs := []) (xs := intsV s.xs) ⟨o1.off, o1.spot, #[], _, (0, 0), .inl rfl, o1.blk, by simp, by simp, fun i hi => absurd hi (by simp)⟩ (by simp) (Nat.le_refl _)
      (.sl ad s.xs.length s.cap _ (by rw [es]; simp) hc) (by intro v hv; obtain ⟨n, _, rfl⟩ := List.mem_map.1 hv; rfl) (by rw [eb]; omega) fun a' c' h2 o2 hc' f2 hb => ⟨_, _, _, rfl, ?_⟩
    have hfr : ∀ b, InA (some a) b → ¬ b < h.size := by rintro b ⟨x, e, rfl⟩ hb; cases e; omega
    have f02 : Fr (fun _ => False) h h2 := f1.tr f2 (fun x hx hi => hfr x hi hx)
    rw [Nat.zero_add] at hc' ⊢
    refine hk ⟨a', c', s.xs⟩ h2 f02 ⟨hc', o.cap, fun i hi => ?_⟩ rfl (fun b hi => ?_)
    · cases a' with
      | none => have := o2.1; simp at this; simp only at hi; rw [this] at hi; simp at hi
      | some ad' =>
        refine ⟨ad', rfl, fun j hj => ?_, ?_⟩
        · have hj0 : j = 0 := by simp at hj; exact hj
          subst hj0
          rw [addr_add_zero]
          refine o2.cells.at ?_
          simp at hi
          simp [hi]
        · obtain ⟨_, _, _, hok⟩ := o.at_ i hi; exact hok
    · rcases hb b hi with hb | hb
      · exact Nat.le_of_not_lt (hfr b hb)
      · have := f1.size; omega
end Go.Proofs.Ytjelnknmjhceiaa
