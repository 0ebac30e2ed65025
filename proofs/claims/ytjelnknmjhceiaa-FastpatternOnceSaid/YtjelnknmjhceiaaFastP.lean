/-
  Two lists of groups that are the same; the law of the groups.
-/
import Derived.Test.YtjelnknmjhceiaaFastO
namespace Go.Proofs.Ytjelnknmjhceiaa
set_option linter.unusedSimpArgs false
set_option linter.unusedVariables false
set_option maxRecDepth 20000
open Go
theorem grp_inj {x y : S_api_Group} (h : grpOf x = grpOf y) : x.Kind = y.Kind ∧ x.Transforms.xs = y.Transforms.xs ∧ x.Patterns.xs.map (fun p => (p.Text, p.Nocase)) = y.Patterns.xs.map (fun p => (p.Text, p.Nocase)) ∧ x.Rules.xs.map (·.xs) = y.Rules.xs.map (·.xs) ∧ x.Always.xs = y.Always.xs := by
  unfold grpOf at h
  simp only [Grp.mk.injEq] at h
  exact h
theorem same_b5 [Gh] {a b : Option Addr} {an ac bn bc : Nat} {i : Int} {x y : S_api_Group} {t6 t7 : Addr} {h : Heap} (o6 : Own h t6 x.vals T_api_Group) (o7 : Own h t7 y.vals T_api_Group) (okx : x.ok h) (oky : y.ok h) (e : grpOf x = grpOf y)
    (small : x.Transforms.xs.length < 2 ^ 60 ∧ x.Always.xs.length < 2 ^ 60 ∧ x.Patterns.xs.length < 2 ^ 60 ∧ x.Rules.xs.length < 2 ^ 60 ∧ ∀ l ∈ x.Rules.xs, l.xs.length < 2 ^ 60) {Q : QT} {Kn : Int → Heap → Prop}
    (hk : ∀ h', Fr (fun _ => False) h h' → Kn (IntKind.wrap .i64 (i + 1)) h') : ref46_Same_b5 a an ac b bn bc i t6 t7 Q Kn h := by
  obtain ⟨e1, e2, e3, e4, e5⟩ := grp_inj e
  obtain ⟨s1, s2, s3, s4, s5⟩ := small
  have l3 : x.Patterns.xs.length = y.Patterns.xs.length := by have := congrArg List.length e3; simpa using this
  have l4 : x.Rules.xs.length = y.Rules.xs.length := by have := congrArg List.length e4; simpa using this
  unfold ref46_Same_b5
  refine ldI_mk (o6.cells.at0 rfl) (ldI_mk (o7.cells.at0 rfl) (ifNe (fun hne => absurd e1 hne) fun _ => ?_))
  refine ldL_mk (o6.cells.at rfl) (ldL_mk (o7.cells.at rfl) ?_)
  refine ints_c x.Transforms y.Transforms okx.k1 oky.k1 (by rw [← e2]; exact s1) ⟨_, rfl, ?_⟩
  rw [e2, if_neg (by simp)]
  refine ldL_mk (o6.cells.at rfl) (ldL_mk (o7.cells.at rfl) ?_)
  refine ints_c x.Always y.Always okx.k4 oky.k4 (by rw [← e5]; exact s2) ⟨_, rfl, ?_⟩
  rw [e5, if_neg (by simp)]
  refine ldL_mk (o6.cells.at rfl) (ldL_mk (o7.cells.at rfl) (ifNe (fun hne => by omega) fun _ => ?_))
  refine ldL_mk (o6.cells.at rfl) (ldL_mk (o7.cells.at rfl) (ifNe (fun hne => by omega) fun _ => ?_))
  refine LoopV.mk (fun j h' => h' = h ∧ ∃ n : Nat, j = n ∧ n ≤ x.Patterns.xs.length) (fun j _ => x.Patterns.xs.length - j.toNat) ⟨rfl, 0, rfl, by omega⟩ ?_
  rintro j h' ⟨rfl, n, rfl, hn⟩
  unfold ref46_Same_l2
  refine ldL_mk (o6.cells.at rfl) (ifD (fun hlt => ?_) (fun hge => ?_))
  · have hx : n < x.Patterns.xs.length := by omega
    refine ldL_mk (o6.cells.at rfl) (idx_sl okx.k2 n rfl hx fun pd pc _ => ?_)
    rw [Int.toNat_natCast]
    refine (ldS_mk (pc.at0 rfl) (ldB_mk (pc.at rfl) ?_))
    refine ldL_mk (o7.cells.at rfl) (idx_sl oky.k2 n rfl (by omega) fun qd qc _ => ?_)
    refine (ldS_mk (qc.at0 rfl) (ldB_mk (qc.at rfl) ?_))
    have := congrArg (fun l => l[n]?) e3
    simp only [List.getElem?_map, List.getElem?_eq_getElem hx, List.getElem?_eq_getElem (show n < y.Patterns.xs.length by omega), Option.map_some, Option.some.injEq, Prod.mk.injEq] at this
    rw [this.1, this.2, if_neg (by simp [bs_beq]), wr (by omega) (by omega)]
    exact ⟨⟨rfl, n + 1, by omega, by omega⟩, by omega⟩
  · unfold ref46_Same_b3
    refine LoopV.mk (fun j h2 => h2 = h' ∧ ∃ n : Nat, j = n ∧ n ≤ x.Rules.xs.length) (fun j _ => x.Rules.xs.length - j.toNat) ⟨rfl, 0, rfl, by omega⟩ ?_
    rintro j h2 ⟨rfl, n, rfl, hn⟩
    unfold ref46_Same_l4
    refine ldL_mk (o6.cells.at rfl) (ifD (fun hlt => ?_) (fun hge => hk _ (Fr.refl _ _)))
    have hx : n < x.Rules.xs.length := by omega
    have hy : n < y.Rules.xs.length := by omega
    refine ldL_mk (o6.cells.at rfl) (idx_sl okx.k3 n rfl hx fun pd pc okp => ?_)
    rw [Int.toNat_natCast]
    refine ldL_mk (pc.at0 rfl) (ldL_mk (o7.cells.at rfl) (idx_sl oky.k3 n rfl hy fun qd qc okq => ?_))
    refine ldL_mk (qc.at0 rfl) ?_
    have := congrArg (fun l => l[n]?) e4
    simp only [List.getElem?_map, List.getElem?_eq_getElem hx, List.getElem?_eq_getElem hy, Option.map_some, Option.some.injEq] at this
    refine ints_c x.Rules.xs[n] y.Rules.xs[n] okp okq (by rw [← this]; exact s5 _ (List.getElem_mem hx)) ⟨_, rfl, ?_⟩
    rw [this, if_neg (by simp), wr (by omega) (by omega)]
    exact ⟨⟨rfl, n + 1, by omega, by omega⟩, by omega⟩
def SmallG (g : Sl S_api_Group) : Prop := g.xs.length < 2 ^ 60 ∧ ∀ x ∈ g.xs, x.Transforms.xs.length < 2 ^ 60 ∧ x.Always.xs.length < 2 ^ 60 ∧ x.Patterns.xs.length < 2 ^ 60 ∧ x.Rules.xs.length < 2 ^ 60 ∧ ∀ l ∈ x.Rules.xs, l.xs.length < 2 ^ 60
theorem Same_c [Gh] (a b : Sl S_api_Group) {h : Heap} (oka : GrpsOk h a) (okb : GrpsOk h b) (e : a.xs.map grpOf = b.xs.map grpOf) (sm : SmallG a) {Q : Value → Heap → Prop} (hk : ∀ h', Fr (fun _ => False) h h' → Q (.bool true) h') :
    CallT Try.prog fn_ref46_Same #[.slice a.p a.xs.length a.cap, .slice b.p b.xs.length b.cap] h Q := by
  apply ref46_Same_s
  unfold ref46_Same_v
  have hl : a.xs.length = b.xs.length := by have := congrArg List.length e; simpa using this
  refine ifNe (fun hne => by omega) fun _ => ?_
  have hsm := sm.1
  refine LoopV.mk (fun j h' => ∃ n : Nat, j = n ∧ n ≤ a.xs.length ∧ Fr (fun _ => False) h h') (fun j _ => a.xs.length - j.toNat) ⟨0, rfl, by omega, Fr.refl _ _⟩ ?_
  rintro j h1 ⟨n, rfl, hn, f1⟩
  unfold ref46_Same_l1
  refine ifD (fun hlt => ?_) (fun hge => hk _ f1)
  have ha : n < a.xs.length := by omega
  have hb : n < b.xs.length := by omega
  have oka1 := SlOk.fr0 S_api_Group.ok_fr f1 oka
  have okb1 := SlOk.fr0 S_api_Group.ok_fr f1 okb
  refine idx_sl oka1 n rfl ha fun ad ac okx => ?_
  rw [Int.toNat_natCast]
  refine (ldI_mk (ac.at0 rfl) (ldL_mk (ac.at rfl) (ldL_mk (ac.at rfl) (ldL_mk (ac.at rfl) (ldL_mk (ac.at rfl) ?_)))))
  refine idx_sl okb1 n rfl hb fun bd bc oky => ?_
  refine (ldI_mk (bc.at0 rfl) (ldL_mk (bc.at rfl) (ldL_mk (bc.at rfl) (ldL_mk (bc.at rfl) (ldL_mk (bc.at rfl) ?_)))))
  have ex : grpOf a.xs[n] = grpOf b.xs[n] := by
    have := congrArg (fun l => l[n]?) e
    simpa [List.getElem?_eq_getElem ha, List.getElem?_eq_getElem hb] using this
  have fin : ∀ (t6 t7 : Addr) (h' : Heap), Fr (fun _ => False) h1 h' → Own h' t6 a.xs[n].vals T_api_Group → Own h' t7 b.xs[n].vals T_api_Group →
      ref46_Same_b5 a.p a.xs.length a.cap b.p b.xs.length b.cap n t6 t7 Q (fun s' h' => (∃ n : Nat, s' = n ∧ n ≤ a.xs.length ∧ Fr (fun _ => False) h h') ∧ a.xs.length - s'.toNat < a.xs.length - n) h' := by
    intro t6 t7 h' f' o6 o7
    refine same_b5 o6 o7 (S_api_Group.ok_fr _ _ _ f' okx) (S_api_Group.ok_fr _ _ _ f' oky) ex (sm.2 _ (List.getElem_mem ha)) fun h2 f2 => ?_
    rw [wr (by omega) (by omega)]
    exact ⟨⟨n + 1, by omega, by omega, (f1.trans f').trans f2⟩, by omega⟩
  refine ⟨al_mk fun t6 h2 f2 e2 o2 => ?_, al_mk fun t7 h2 f2 e2 o2 => ?_⟩
  · refine ⟨?_, ?_, al_mk fun u h3 f3 e3 o3 => ?_⟩
    · have c := Cells.fr0 f2 ac
      refine (ldI_mk (c.at0 rfl) (ldL_mk (c.at rfl) (ldL_mk (c.at rfl) (ldL_mk (c.at rfl) (ldL_mk (c.at rfl) ?_)))))
      rfl
    · have c := Cells.fr0 f2 bc
      refine (ldI_mk (c.at0 rfl) (ldL_mk (c.at rfl) (ldL_mk (c.at rfl) (ldL_mk (c.at rfl) (ldL_mk (c.at rfl) ?_)))))
      rfl
    have f23 := f2.trans f3
    refine ⟨?_, ?_, ?_⟩
    · have c := Cells.fr0 f23 ac
      refine (ldI_mk (c.at0 rfl) (ldL_mk (c.at rfl) (ldL_mk (c.at rfl) (ldL_mk (c.at rfl) (ldL_mk (c.at rfl) ?_)))))
      rfl
    · have c := Cells.fr0 f23 bc
      refine (ldI_mk (c.at0 rfl) (ldL_mk (c.at rfl) (ldL_mk (c.at rfl) (ldL_mk (c.at rfl) (ldL_mk (c.at rfl) ?_)))))
      rfl
    have o2' := Own.fr0 f3 o2
    have lu := o2.lt
    refine stN_own o2' rfl rfl fun h4 f4 _ o4 => ?_
    have f14 : Fr (fun _ => False) h1 h4 := f23.tr f4 fun x hx e => by have := f2.size; subst e; omega
    refine ⟨?_, ?_⟩
    · have c := Cells.fr0 f14 bc
      refine (ldI_mk (c.at0 rfl) (ldL_mk (c.at rfl) (ldL_mk (c.at rfl) (ldL_mk (c.at rfl) (ldL_mk (c.at rfl) ?_)))))
      rfl
    refine stN_own (o3.fr f4 (by omega)) rfl rfl fun h5 f5 _ o5 => ?_
    exact fin _ _ h5 (f14.tr f5 fun x hx e => by have := f2.size; subst e; omega) (o4.fr f5 (by omega)) o5
  · refine ⟨?_, ?_, al_mk fun u h3 f3 e3 o3 => ?_⟩
    · have c := Cells.fr0 f2 ac
      refine (ldI_mk (c.at0 rfl) (ldL_mk (c.at rfl) (ldL_mk (c.at rfl) (ldL_mk (c.at rfl) (ldL_mk (c.at rfl) ?_)))))
      rfl
    · have c := Cells.fr0 f2 bc
      refine (ldI_mk (c.at0 rfl) (ldL_mk (c.at rfl) (ldL_mk (c.at rfl) (ldL_mk (c.at rfl) (ldL_mk (c.at rfl) ?_)))))
      rfl
    have f23 := f2.trans f3
    refine ⟨?_, ?_, ?_⟩
    · have c := Cells.fr0 f23 ac
      refine (ldI_mk (c.at0 rfl) (ldL_mk (c.at rfl) (ldL_mk (c.at rfl) (ldL_mk (c.at rfl) (ldL_mk (c.at rfl) ?_)))))
      rfl
    · have c := Cells.fr0 f23 bc
      refine (ldI_mk (c.at0 rfl) (ldL_mk (c.at rfl) (ldL_mk (c.at rfl) (ldL_mk (c.at rfl) (ldL_mk (c.at rfl) ?_)))))
      rfl
    have o2' := Own.fr0 f3 o2
    have lu := o2.lt
    refine stN_own o3 rfl rfl fun h4 f4 _ o4 => ?_
    have f14 : Fr (fun _ => False) h1 h4 := f23.tr f4 fun x hx e => by have := f2.size; subst e; omega
    refine ⟨?_, ?_⟩
    · have c := Cells.fr0 f14 bc
      refine (ldI_mk (c.at0 rfl) (ldL_mk (c.at rfl) (ldL_mk (c.at rfl) (ldL_mk (c.at rfl) (ldL_mk (c.at rfl) ?_)))))
      rfl
    refine stN_own (o2'.fr f4 (by omega)) rfl rfl fun h5 f5 _ o5 => ?_
    exact fin _ _ h5 (f14.tr f5 fun x hx e => by have := f2.size; subst e; omega) (o4.fr f5 (by omega)) o5
theorem short_c [Gh] (s : Sl Ru) {h : Heap} (ok : SlOk 21 S_api_Rule.vals S_api_Rule.ok h s) {Q : Value → Heap → Prop} (hk : ∀ (b : Bool) h', Fr (fun _ => False) h h' → (b = true → s.xs.length ≤ 40 ∧ ∀ r ∈ s.xs, ShortR r) → Q (.bool b) h') :
    CallT Try.prog fn_law46_short #[.slice s.p s.xs.length s.cap] h Q := by
  apply law46_short_s
  unfold law46_short_v
  refine LoopV.mk (fun j h' => ∃ n : Nat, j = n ∧ n ≤ s.xs.length ∧ n ≤ 41 ∧ Fr (fun _ => False) h h' ∧ ∀ j (hj : j < s.xs.length), j < n → ShortR s.xs[j]) (fun j _ => s.xs.length - j.toNat) ⟨0, rfl, by omega, by omega, Fr.refl _ _, fun j _ hj => by omega⟩ ?_
  rintro j h1 ⟨n, rfl, hn, hn2, f1, hpre⟩
  unfold law46_short_l1
  have end_ : (s.xs.length ≤ n ∨ 41 ≤ n) → law46_short_b2 s.p s.xs.length s.cap Q h1 := by
    intro he
    unfold law46_short_b2
    refine hk _ h1 f1 fun hb => ?_
    have hle : s.xs.length ≤ 40 := by have := of_decide_eq_true hb; omega
    refine ⟨hle, fun r hr => ?_⟩
    obtain ⟨j, hj, rfl⟩ := List.mem_iff_getElem.1 hr
    exact hpre j hj (by omega)
  refine ifD (fun hlt => ifD (fun h41 => ?_) fun h41 => end_ (by omega)) fun hge => end_ (by omega)
  have hs : n < s.xs.length := by omega
  refine idx_sl (SlOk.fr0 S_api_Rule.ok_fr f1 ok) n rfl hs fun ad cc okr => ?_
  rw [Int.toNat_natCast]
  refine (ldI_mk (cc.at0 rfl) (ldI_mk (cc.at rfl) (ldL_mk (cc.at rfl) (ldL_mk (cc.at rfl) (ldL_mk (cc.at rfl) (ldL_mk (cc.at rfl) (ldB_mk (cc.at rfl) (ldI_mk (cc.at rfl) (ldI_mk (cc.at rfl) (ldI_mk (cc.at rfl) (ldS_mk (cc.at rfl) (ldI_mk (cc.at rfl) (ldI_mk (cc.at rfl) (ldL_mk (cc.at rfl) (ldL_mk (cc.at rfl) (ldL_mk (cc.at rfl) (ldL_mk (cc.at rfl) (ldI_mk (cc.at rfl) (ldI_mk (cc.at rfl) (ldI_mk (cc.at rfl) (ldI_mk (cc.at rfl) ?_)))))))))))))))))))))
  refine Short_c s.xs[n] okr fun b h2 f2 hb => ⟨_, rfl, ?_⟩
  refine ifN (fun _ => hk false _ (f1.trans f2) fun h => by cases h) fun hbt => ?_
  rw [wr (by omega) (by omega)]
  refine ⟨⟨n + 1, by omega, by omega, by omega, f1.trans f2, fun j hj hjk => ?_⟩, by omega⟩
  by_cases e : j = n
  · subst e; exact hb hbt
  · exact hpre j hj (by omega)
theorem groups_small : ∀ (l : List Ru) (k : Nat) (gs : List Grp), Small k gs → Small (k + l.length) (groupsGo l k gs)
  | [], k, gs, s => s
  | r :: l, k, gs, s => by
    have := groups_small l (k + 1) (addR k r gs) (s.add r)
    rw [groupsGo]
    have e : k + (r :: l).length = k + 1 + l.length := by simp; omega
    rw [e]; exact this
/-- No group has other numbers than the rules gave. -/
theorem tr_seat (r : Ru) (k : Nat) (gs : List Grp) (h : ∀ g ∈ gs, g.tr.length ≤ 70) (hr : r.Transforms.xs.length ≤ 70) : ∀ g ∈ addR k r gs, g.tr.length ≤ 70 := by
  intro g hg
  have hs : ∀ g ∈ seatG r gs, g.tr.length ≤ 70 := by
    intro g hg
    unfold seatG at hg
    split at hg
    · rcases List.mem_append.1 hg with hg | hg
      · exact h g hg
      · rw [List.mem_singleton.1 hg]; exact hr
    · exact h g hg
  rcases mem_modify hg with hg | ⟨y, hy, rfl⟩
  · exact hs g hg
  · have e : (addG k r y).tr = y.tr := by unfold addG; split <;> (try split) <;> rfl
    rw [e]; exact hs y hy
theorem tr_groups : ∀ (l : List Ru) (k : Nat) (gs : List Grp), (∀ g ∈ gs, g.tr.length ≤ 70) → (∀ r ∈ l, r.Transforms.xs.length ≤ 70) → ∀ g ∈ groupsGo l k gs, g.tr.length ≤ 70
  | [], _, _, h, _ => h
  | r :: l, k, gs, h, hr => tr_groups l (k + 1) _ (tr_seat r k gs h (hr r (by simp))) fun x hx => hr x (by simp [hx])
theorem smallG_of {g : Sl S_api_Group} {l : List Ru} (e : g.xs.map grpOf = groupsL l) (hl : l.length ≤ 40) (sh : ∀ r ∈ l, ShortR r) : SmallG g := by
  have sm : Small (0 + l.length) (groupsL l) := groups_small l 0 [] ⟨Nat.le_refl _, fun g hg => by cases hg⟩
  have ht : ∀ g ∈ groupsL l, g.tr.length ≤ 70 := tr_groups l 0 [] (fun g hg => by cases hg) fun r hr => (sh r hr).t
  rw [← e] at sm ht
  refine ⟨by have := sm.len; simp at this; omega, fun x hx => ?_⟩
  have hm : grpOf x ∈ g.xs.map grpOf := List.mem_map_of_mem hx
  obtain ⟨h1, h2, h3, h4⟩ := sm.g _ hm
  have h5 := ht _ hm
  unfold grpOf at h1 h2 h3 h4 h5
  simp only [List.length_map] at h1 h2 h3 h5
  refine ⟨by omega, by omega, by omega, by omega, fun y hy => ?_⟩
  have := h4 y.xs (List.mem_map_of_mem (f := fun z : Sl Int => z.xs) hy)
  omega
theorem FastpatternGroups_c [Gh] (s : Sl Ru) {h : Heap} (ok : SlOk 21 S_api_Rule.vals S_api_Rule.ok h s) {Q : Value → Heap → Prop} (hk : ∀ h', Fr (fun _ => False) h h' → Q (.bool true) h') :
    CallT Try.prog fn_law46_FastpatternGroups #[.slice s.p s.xs.length s.cap] h Q := by
  apply law46_FastpatternGroups_s
  unfold law46_FastpatternGroups_v
  refine short_c s ok fun b h1 f1 hb => ⟨_, rfl, ?_⟩
  refine ifN (fun _ => lives_c fun h2 f2 => ⟨_, rfl, hk _ (f1.trans f2)⟩) fun hbt => ?_
  obtain ⟨hl, sh⟩ := hb hbt
  have ok1 := SlOk.fr0 S_api_Rule.ok_fr f1 ok
  refine Groups_c s ok1 hl sh fun g h2 f2 okg eg => ⟨_, _, _, rfl, ?_⟩
  refine rGroups_c s (SlOk.fr0 S_api_Rule.ok_fr f2 ok1) hl sh fun g' h3 f3 okg' eg' => ⟨_, _, _, rfl, ?_⟩
  refine Same_c g g' (SlOk.fr0 S_api_Group.ok_fr f3 okg) okg' (by rw [eg, eg']) (smallG_of eg hl sh) fun h4 f4 => ⟨_, rfl, ?_⟩
  rw [if_pos rfl]
  exact lives_c fun h5 f5 => ⟨_, rfl, hk _ ((((f1.trans f2).trans f3).trans f4).trans f5)⟩
end Go.Proofs.Ytjelnknmjhceiaa
