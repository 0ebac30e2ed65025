/-
  The program's groups, whole.
-/
import Derived.Test.YtjelnknmjhceiaaFastI
namespace Go.Proofs.Ytjelnknmjhceiaa
set_option linter.unusedSimpArgs false
set_option linter.unusedVariables false
set_option maxRecDepth 20000
open Go
theorem kok_of {h : Heap} {n : Int} (h1 : -9223372036854775808 ≤ n) (h2 : n ≤ 9223372036854775807) : kOk .i64 h n := by
  unfold kOk
  simp [Lit.wf, IntKind.min, IntKind.max, IntKind.signed, IntKind.bits]
  omega
/-- A rule whose lists are short. -/
structure ShortR (r : Ru) : Prop where
  c : ShortC r.Contents.xs
  t : r.Transforms.xs.length ≤ 70
/-- What stands in groups: numbers of rules, short patterns. -/
def GoodG (k : Nat) (gs : List Grp) : Prop := ∀ g ∈ gs, (∀ n ∈ g.always, 0 ≤ n ∧ n < (k : Int)) ∧ (∀ l ∈ g.rules, ∀ n ∈ l, 0 ≤ n ∧ n < (k : Int)) ∧ ∀ p ∈ g.pats, p.1.length ≤ 200
theorem patL_len {cs : List Cn} (sh : ShortC cs) {p : List UInt8 × Bool} (hp : patL cs = some p) : p.1.length ≤ 200 := by
  unfold patL at hp
  split at hp
  · cases hp
  · rename_i hneg
    have hlt := chooseL_lt cs
    simp only [Option.some.injEq] at hp
    subst hp
    have hk : (chooseL cs).toNat < cs.length := by omega
    have e : cs.getD (chooseL cs).toNat noC = cs[(chooseL cs).toNat] := by rw [List.getD_eq_getElem?_getD, List.getElem?_eq_getElem hk]; rfl
    have := sh.pat _ (List.getElem_mem hk)
    simp only [e]
    split
    · simpa using this
    · exact this
theorem GoodG.add {k : Nat} {gs : List Grp} (s : GoodG k gs) (r : Ru) (sh : ShortC r.Contents.xs) : GoodG (k + 1) (addR k r gs) := by
  have hs : GoodG k (seatG r gs) := by
    intro g hg
    unfold seatG at hg
    split at hg
    · rcases List.mem_append.1 hg with hg | hg
      · exact s g hg
      · rw [List.mem_singleton.1 hg]; simp
    · exact s g hg
  have up : GoodG (k + 1) (seatG r gs) := fun g hg => by
    obtain ⟨h1, h2, h3⟩ := hs g hg
    exact ⟨fun n hn => by have := h1 n hn; omega, fun l hl n hn => by have := h2 l hl n hn; omega, h3⟩
  intro g hg
  rcases mem_modify hg with hg | ⟨y, hy, rfl⟩
  · exact up g hg
  · obtain ⟨h1, h2, h3⟩ := up y hy
    unfold addG
    split
    · refine ⟨fun n hn => ?_, h2, h3⟩
      rcases List.mem_append.1 hn with hn | hn
      · exact h1 n hn
      · rw [List.mem_singleton.1 hn]; omega
    · rename_i p hp
      split
      · refine ⟨h1, fun l hl n hn => ?_, fun q hq => ?_⟩
        · rcases List.mem_append.1 hl with hl | hl
          · exact h2 l hl n hn
          · rw [List.mem_singleton.1 hl] at hn; rw [List.mem_singleton.1 hn]; omega
        · rcases List.mem_append.1 hq with hq | hq
          · exact h3 q hq
          · rw [List.mem_singleton.1 hq]; exact patL_len sh hp
      · refine ⟨h1, fun l hl n hn => ?_, h3⟩
        rcases mem_modify hl with hl | ⟨z, hz, rfl⟩
        · exact h2 l hl n hn
        · rcases List.mem_append.1 hn with hn | hn
          · exact h2 z hz n hn
          · rw [List.mem_singleton.1 hn]; omega
def grpOf (g : S_api_Group) : Grp := ⟨g.Kind, g.Transforms.xs, g.Patterns.xs.map fun p => (p.Text, p.Nocase), g.Rules.xs.map (·.xs), g.Always.xs⟩
abbrev GrpsOk (h : Heap) (g : Sl S_api_Group) : Prop := SlOk 5 S_api_Group.vals S_api_Group.ok h g
theorem ints_own {h : Heap} {a : Option Addr} {c : Nat} {l : List Int} (o : OwnC h a c 1 (intsV l)) (hc : l.length ≤ c) (hl : l.length ≤ 9223372036854775807) (hk : ∀ n ∈ l, kOk .i64 h n) : IntsOk h ⟨a, c, l⟩ := by
  refine ⟨hc, hl, fun i hi => ?_⟩
  cases a with
  | none => have := o.1; simp only at hi; simp [intsV] at this; rw [this] at hi; simp at hi
  | some ad =>
    refine ⟨ad, rfl, fun j hj => ?_, hk _ (List.getElem_mem hi)⟩
    have hj0 : j = 0 := by simp at hj; exact hj
    subst hj0
    rw [addr_add_zero]
    refine o.cells.at ?_
    simp only at hi
    simp [intsV, hi]
section
variable {h : Heap} {gs : List Grp} {tr : Nat → Sl Int} {sl : Ix → Option Addr} {cap : Ix → Nat} {cs : Ix → List Value}
def recG (gs : List Grp) (tr : Nat → Sl Int) (sl : Ix → Option Addr) (cap : Ix → Nat) (i : Fin gs.length) : S_api_Group :=
  ⟨gs[i].kind, tr i, ⟨sl (xP i), cap (xP i), gs[i].pats.map fun p => ⟨p.1, p.2⟩⟩, ⟨sl (xR i), cap (xR i), (List.finRange gs[i].rules.length).map fun n : Fin gs[i].rules.length => ⟨sl (xI i n.val), cap (xI i n.val), gs[i].rules[n.val]⟩⟩, ⟨sl (xA i), cap (xA i), gs[i].always⟩⟩
theorem GRel.read (G : GRel h gs tr sl cap cs) {k : Nat} (sm : Small k gs) (gd : GoodG k gs) (hk : k ≤ 2 ^ 20) : ∃ g : Sl S_api_Group, g.p = sl xO ∧ g.xs.length = gs.length ∧ g.cap = cap xO ∧ GrpsOk h g ∧ g.xs.map grpOf = gs := by
  refine ⟨⟨sl xO, cap xO, (List.finRange gs.length).map (recG gs tr sl cap)⟩, rfl, by simp, rfl, ⟨by simpa using G.ocap, by have := sm.len; simp; omega, fun i hi => ?_⟩, ?_⟩
  · have hig : i < gs.length := by simpa using hi
    obtain ⟨ad, eo, hs, cc⟩ := G.out hig
    have r := G.row i hig
    obtain ⟨s1, s2, s3, s4⟩ := sm.g _ (List.getElem_mem hig)
    obtain ⟨g1, g2, g3⟩ := gd _ (List.getElem_mem hig)
    refine ⟨ad, eo, ?_, ?_⟩
    · simpa [recG, S_api_Group.vals] using cc
    · simp only [List.getElem_map, List.getElem_finRange]
      refine ⟨G.kok _ (List.getElem_mem hig), (G.trok i hig).1, ⟨by simpa [recG] using r.pc, by simp [recG]; omega, fun n hn => ?_⟩, ⟨by simpa [recG] using r.rc, by simp [recG]; omega, fun n hn => ?_⟩, ?_⟩
      · have hn' : n < gs[i].pats.length := by simpa [recG] using hn
        have hget := flat2 (fun p : List UInt8 × Bool => Value.string (bs p.1)) (fun p => Value.bool p.2) gs[i].pats n hn'
        rw [← r.pl] at hget
        obtain ⟨pd, ep, pc⟩ := G.fam.some_of (x := xP i) (by intro e; rw [List.length_eq_zero_iff.1 e] at hget; simp at hget)
        have hps : pd.spot = none := by have := G.fam.own (xP i); rw [ep] at this; exact this.2.1
        refine ⟨pd, ep, fun j hj => ?_, ?_⟩
        · have hj2 : j < 2 := by simpa [S_api_Pattern.vals] using hj
          rw [add_add0 hps]
          match j, hj2 with
          | 0, _ => exact pc.at (by simpa [recG, S_api_Pattern.vals] using hget.1)
          | 1, _ => exact pc.at (by simpa [recG, S_api_Pattern.vals] using hget.2)
        · have := g3 _ (List.getElem_mem hn')
          exact ⟨by show ((recG gs tr sl cap ⟨i, hig⟩).Patterns.xs[n]).Text.length ≤ _; simp [recG]; omega, trivial⟩
      · have hn' : n < gs[i].rules.length := by simpa [recG] using hn
        obtain ⟨rd, er, rc⟩ := G.fam.some_of (x := xR i) (by rw [r.rl]; omega)
        refine ⟨rd, er, fun j hj => ?_, ?_⟩
        · have hj0 : j = 0 := by simpa using hj
          subst hj0
          rw [addr_add_zero, Nat.mul_one]
          exact rc.at (by simpa [recG, Sl.v] using r.rg n hn')
        · have o := G.fam.own (xI i n)
          rw [(r.il n hn').1] at o
          have := ints_own (l := gs[i].rules[n]) o (r.il n hn').2 (by have := s4 _ (List.getElem_mem hn'); omega) (fun m hm => by have := g2 _ (List.getElem_mem hn') m hm; exact kok_of (by omega) (by omega))
          simpa [recG] using this
      · have o := G.fam.own (xA i)
        rw [r.al] at o
        have := ints_own (l := gs[i].always) o r.ac (by omega) (fun m hm => by have := g1 m hm; exact kok_of (by omega) (by omega))
        simpa [recG] using this
  · apply List.ext_getElem (by simp)
    intro i h1 h2
    simp only [List.getElem_map, List.getElem_finRange]
    have r := G.row i h2
    have e3 : (List.finRange gs[i].rules.length).map (fun n : Fin gs[i].rules.length => gs[i].rules[n.val]) = gs[i].rules := by
      apply List.ext_getElem (by simp)
      intro j j1 j2; simp
    have et := r.trx
    simp only [grpOf, recG, List.map_map]
    show (⟨gs[i].kind, (tr i).xs, _, _, gs[i].always⟩ : Grp) = gs[i]
    rw [et]
    have e2 : gs[i].pats.map ((fun p : S_api_Pattern => (p.Text, p.Nocase)) ∘ fun p : List UInt8 × Bool => (⟨p.1, p.2⟩ : S_api_Pattern)) = gs[i].pats := by
      apply List.ext_getElem (by simp)
      intro j j1 j2; simp
    have e4 : (List.finRange gs[i].rules.length).map ((fun x : Sl Int => x.xs) ∘ fun n : Fin gs[i].rules.length => (⟨sl (xI i n.val), cap (xI i n.val), gs[i].rules[n.val]⟩ : Sl Int)) = gs[i].rules := e3
    show (⟨gs[i].kind, gs[i].tr, gs[i].pats.map ((fun p : S_api_Pattern => (p.Text, p.Nocase)) ∘ fun p : List UInt8 × Bool => (⟨p.1, p.2⟩ : S_api_Pattern)), (List.finRange gs[i].rules.length).map ((fun x : Sl Int => x.xs) ∘ fun n : Fin gs[i].rules.length => (⟨sl (xI i n.val), cap (xI i n.val), gs[i].rules[n.val]⟩ : Sl Int)), gs[i].always⟩ : Grp) = gs[i]
    rw [e2, e4]
end
/-- All blocks of a family are new. -/
theorem nw_turn {N : Nat} {h h' : Heap} {sl sl' : Ix → Option Addr} (t : Turned N h h' sl sl') (nw : ∀ x b, InA (sl x) b → N ≤ b) (hN : N ≤ h.size) : ∀ x b, InA (sl' x) b → N ≤ b := fun x b hb => by
  rcases t.old x b hb with ⟨y, hy⟩ | hb
  · exact nw y b hy
  · omega
theorem fr_turn {N : Nat} {h0 h h' : Heap} {sl sl' : Ix → Option Addr} (f : Fr (fun _ => False) h0 h) (t : Turned N h h' sl sl') (nw : ∀ x b, InA (sl x) b → h0.size ≤ b) : Fr (fun _ => False) h0 h' :=
  f.tr t.frS fun x hx ⟨y, hy⟩ => by have := nw y x hy; omega
theorem groups_drop (l : List Ru) (k : Nat) (hk : k < l.length) (gs : List Grp) : groupsGo (l.drop k) k gs = groupsGo (l.drop (k + 1)) (k + 1) (addR k l[k] gs) := by
  rw [List.drop_eq_getElem_cons hk, groupsGo]
theorem Groups_c [Gh] (s : Sl Ru) {h : Heap} (ok : SlOk 21 S_api_Rule.vals S_api_Rule.ok h s) (hl : s.xs.length ≤ 40) (sh : ∀ r ∈ s.xs, ShortR r) {Q : Value → Heap → Prop}
    (hk : ∀ (g : Sl S_api_Group) h', Fr (fun _ => False) h h' → GrpsOk h' g → g.xs.map grpOf = groupsL s.xs → Q (.slice g.p g.xs.length g.cap) h') :
    CallT Try.prog fn_fastpattern_Groups #[.slice s.p s.xs.length s.cap] h Q := by
  apply fastpattern_Groups_s
  unfold fastpattern_Groups_v
  refine LoopV.mk (fun st h' => ∃ (k : Nat) (gs : List Grp) (tr : Nat → Sl Int) (sl : Ix → Option Addr) (cap : Ix → Nat) (cs : Ix → List Value), st = (sl xO, gs.length, cap xO, (k : Int)) ∧ k ≤ s.xs.length ∧ Fr (fun _ => False) h h' ∧ GRel h' gs tr sl cap cs ∧ (∀ x b, InA (sl x) b → h.size ≤ b) ∧ Small k gs ∧ GoodG k gs ∧ groupsGo (s.xs.drop k) k gs = groupsL s.xs)
    (fun st _ => s.xs.length - st.2.2.2.toNat) ⟨0, [], _, _, _, _, rfl, by omega, Fr.refl _ _, GRel.nil h, fun x b hb => (inA_none hb).elim, ⟨Nat.le_refl _, fun g hg => by cases hg⟩, (fun g hg => by cases hg), rfl⟩ ?_
  rintro st h1 ⟨k, gs, tr, sl, cap, cs, rfl, hkl, f1, G, nw, sm, gd, hg⟩
  unfold fastpattern_Groups_l1
  refine ifD (fun hlt => ?_) (fun hge => ?_)
  · simp only at hlt
    have hks : k < s.xs.length := by omega
    have ok1 := SlOk.fr0 S_api_Rule.ok_fr f1 ok
    have shr := sh _ (List.getElem_mem hks)
    rw [groups_drop _ _ hks] at hg
    have okr0 : S_api_Rule.ok h s.xs[k] := by obtain ⟨_, _, _, o⟩ := ok.at_ k hks; exact o
    refine idx_sl ok1 k rfl hks fun ad cc okr => ?_
    simp only [Int.toNat_natCast]
    refine (ldI_mk (cc.at0 rfl) (ldI_mk (cc.at rfl) (ldL_mk (cc.at rfl) (ldL_mk (cc.at rfl) (ldL_mk (cc.at rfl) (ldL_mk (cc.at rfl) (ldB_mk (cc.at rfl) (ldI_mk (cc.at rfl) (ldI_mk (cc.at rfl) (ldI_mk (cc.at rfl) (ldS_mk (cc.at rfl) (ldI_mk (cc.at rfl) (ldI_mk (cc.at rfl) (ldL_mk (cc.at rfl) (ldL_mk (cc.at rfl) (ldL_mk (cc.at rfl) (ldL_mk (cc.at rfl) (ldI_mk (cc.at rfl) (ldI_mk (cc.at rfl) (ldI_mk (cc.at rfl) (ldI_mk (cc.at rfl) ?_)))))))))))))))))))))
    refine cp_mk rfl rfl fun t5 h2 f2 ht5 o5 => ?_
    have f02 := f1.trans f2
    have G2 := G.fr f2
    have okr2 := S_api_Rule.ok_fr _ _ _ f2 okr
    have hsl := sm.len
    refine placeG_c G2 s.xs[k] o5 okr2 (by have := shr.t; omega) (by omega) fun h3 f3 => ⟨_, rfl, ?_⟩
    have G3 := G2.fr f3
    have o5' := Own.fr0 f3 o5
    have f23 := f2.trans f3
    have f03 := f02.trans f3
    have okr3 := S_api_Rule.ok_fr _ _ _ f3 okr2
    have ht5' : t5.block = h1.size := ht5
    have apart : ∀ {h' : Heap} {sl' : Ix → Option Addr}, Turned h.size h1 h' sl sl' → True := fun _ => trivial
    have hnt : ∀ x b, InA (sl x) b → b ≠ t5.block := fun x b hb e => by have := G.fam.lt hb; omega
    have back : ∀ (h' : Heap) (gs' : List Grp) (tr' : Nat → Sl Int) (sl' : Ix → Option Addr) (cap' : Ix → Nat) (cs' : Ix → List Value), GRel h' gs' tr' sl' cap' cs' → gs' = addR k s.xs[k] gs → Turned h.size h1 h' sl sl' →
        (∃ (k' : Nat) (gs : List Grp) (tr : Nat → Sl Int) (sl : Ix → Option Addr) (cap : Ix → Nat) (cs : Ix → List Value), (sl' xO, gs'.length, cap' xO, IntKind.wrap .i64 ((k : Int) + 1)) = (sl xO, gs.length, cap xO, (k' : Int)) ∧ k' ≤ s.xs.length ∧ Fr (fun _ => False) h h' ∧ GRel h' gs tr sl cap cs ∧ (∀ x b, InA (sl x) b → h.size ≤ b) ∧ Small k' gs ∧ GoodG k' gs ∧ groupsGo (s.xs.drop k') k' gs = groupsL s.xs) ∧ s.xs.length - (IntKind.wrap .i64 ((k : Int) + 1)).toNat < s.xs.length - ((k : Int)).toNat := by
      intro h' gs' tr' sl' cap' cs' G' e' t'
      subst e'
      rw [wr (by omega) (by omega)]
      exact ⟨⟨k + 1, _, tr', sl', cap', cs', rfl, by omega, fr_turn f1 t' nw, G', nw_turn t' nw f1.size, sm.add _, gd.add _ shr.c, hg⟩, by omega⟩
    have hfl : gs.findIdx (fitsG s.xs[k]) ≤ gs.length := List.findIdx_le_length
    refine ifE (fun hq => ?_) (fun hq => ?_)
    · have hq' : gs.findIdx (fitsG s.xs[k]) = gs.length := by omega
      refine ldI_mk (o5'.cells.at rfl) (ldL_mk (o5'.cells.at rfl) ?_)
      refine sclone_c s.xs[k].Transforms okr3.k13 (by have := shr.t; omega) fun T h4 f4 oT eT hnew => ⟨_, _, _, rfl, ?_⟩
      have o54 := Own.fr0 f4 o5'
      refine ⟨ldI_mk (o54.cells.at rfl) rfl, ?_⟩
      refine al_mk fun b h5 f5 hb5 o5b => ?_
      have G5 := (G3.fr f4).fr f5
      have es : (Try.t49).size = 5 := by kernel_rfl
      have eb : (Try.t49).bytes = 104 := by kernel_rfl
      refine Fam.app el_grp Try.underlying44 (by intro k e; cases e) G5.fam xO (by rw [es]; rfl) (by rw [G.olen]; rfl) G.ocap (Src.one o5b (by rw [es]; rfl) 1) (by intro v hv; simp at hv; rcases hv with rfl | rfl | rfl | rfl | rfl <;> rfl) (by rw [eb]; omega) fun a' c' h6 F6 hc6 f6 hn6 => ⟨_, _, _, rfl, ?_⟩
      have t6 : Turned h.size h1 h6 sl (put sl xO a') := (Turned.of_fr ((f23.trans f4).trans f5)).trans (Turned.of_app f6 hn6)
      have hTb : T.xs ≠ [] → ∀ b, InA T.p b → h3.size ≤ b ∧ b < h4.size := fun hx b hb => ⟨hnew b hb, oT.lt hx hb⟩
      have hTapart : T.xs ≠ [] → ∀ x b, InA T.p b → ¬ InA (put sl xO a' x) b := by
        intro hx x b hb hi
        obtain ⟨hb1, hb2⟩ := hTb hx b hb
        rcases t6.old x b hi with ⟨y, hy⟩ | hy
        · have h1' := G.fam.lt hy; have h2' := f23.size; omega
        · by_cases e : x = xO
          · subst e; rw [put_self] at hi
            rcases hn6 b hi with hi | hi
            · have h1' := G.fam.lt hi; have h2' := f23.size; omega
            · have := f5.size; omega
          · rw [put_ne _ _ e] at hi
            have h1' := G.fam.lt hi; have h2' := f23.size; omega
      have hTok : IntsOk h6 T := by
        by_cases hx : T.xs = []
        · exact ⟨oT.len, oT.cap, fun i hi => by rw [hx] at hi; simp at hi⟩
        · refine IntsOk.fr (SlOk.fr0 fr_c f5 oT) f6 fun b hb hi => ?_
          obtain ⟨hb1, hb2⟩ := hTb hx b hb
          have h1' := G.fam.lt hi; have h2' := f23.size; omega
      have t56 : Turned h.size h5 h6 sl (put sl xO a') := Turned.of_app f6 hn6
      have G6 := G5.push (N := h.size) s.xs[k].Kind okr.k12 T hc6 F6 t56 hTok hTapart
      have hlen : (gs ++ [(⟨s.xs[k].Kind, T.xs, [], [], []⟩ : Grp)]).length = gs.length + 1 := by simp
      rw [← hlen]
      have e1 : put sl xO a' xO = a' := put_self _ _ _
      have e2 : put cap xO c' xO = c' := put_self _ _ _
      rw [hq', ← e1, ← e2]
      have o56 : Own h6 t5 s.xs[k].vals T_api_Rule := (Own.fr0 f5 o54).fr f6 (fun hi => hnt xO _ hi rfl)
      refine b2_c (N := h.size) (m := k) G6 (i := gs.length) (by simp) (fun g hgm => ?_) (by omega) k s.xs[k] o56 (fun x b hb e => ?_) (S_api_Rule.ok_fr _ _ _ (fr_turn f1 t6 nw) okr0) shr.c fun h7 sl7 cap7 cs7 G7 t7 es7 ec7 => ?_
      · rcases List.mem_append.1 hgm with hgm | hgm
        · exact sm.g g hgm
        · rw [List.mem_singleton.1 hgm]; simp
      · by_cases ex : x = xO
        · subst ex; rw [put_self] at hb
          rcases hn6 b hb with hb | hb
          · exact hnt _ b hb e
          · have h1' := f2.size; have h2' := ((f3.trans f4).trans f5).size
            have := o5.lt; omega
        · rw [put_ne _ _ ex] at hb; exact hnt x b hb e
      · rw [← es7, ← ec7]
        have eL : gs.length + 1 = ((gs ++ [(⟨s.xs[k].Kind, T.xs, [], [], []⟩ : Grp)]).modify gs.length (addG k s.xs[k])).length := by simp
        rw [hlen, eL]
        refine back h7 _ _ sl7 cap7 cs7 G7 ?_ (t6.trans t7)
        unfold addR seatG
        rw [if_pos hq', hq', eT]
    · have hlt : gs.findIdx (fitsG s.xs[k]) < gs.length := by omega
      refine b2_c (N := h.size) (m := k) G3 hlt sm.g (by omega) k s.xs[k] o5' hnt okr3 shr.c fun h7 sl7 cap7 cs7 G7 t7 es7 ec7 => ?_
      rw [← es7, ← ec7]
      have eL : gs.length = (gs.modify (gs.findIdx (fitsG s.xs[k])) (addG k s.xs[k])).length := by simp
      conv => lhs; rw [eL]
      refine back h7 _ _ sl7 cap7 cs7 G7 ?_ ((Turned.of_fr f23).trans t7)
      unfold addR seatG
      rw [if_neg (by omega)]
  · simp only at hge
    have e : k = s.xs.length := by omega
    rw [e, List.drop_length] at hg
    obtain ⟨g, hp, hlen, hc, hgok, hmap⟩ := G.read sm gd (by omega)
    have := hk g h1 f1 hgok (by rw [hmap]; exact hg)
    rw [hp, hlen, hc] at this; exact this
end Go.Proofs.Ytjelnknmjhceiaa
