/-
  The program's groups.
-/
import Derived.Test.YtjelnknmjhceiaaFastH
namespace Go.Proofs.Ytjelnknmjhceiaa
set_option linter.unusedSimpArgs false
set_option linter.unusedVariables false
set_option maxRecDepth 20000
open Go
theorem el_pat : ElemT Try.prog T_sl_api_Pattern T_api_Pattern Try.t37 (.agg #[.string ⟨#[]⟩, .bool false]) := ⟨Try.underlying46, by kernel_rfl, by kernel_rfl, by kernel_rfl, by decide⟩
theorem el_sl : ElemT Try.prog T_sl_sl_int T_sl_int Try.t27 (.slice none 0 0) := ⟨Try.underlying47, by kernel_rfl, by kernel_rfl, by kernel_rfl, by decide⟩
theorem el_grp : ElemT Try.prog T_sl_api_Group T_api_Group Try.t49 (.agg #[.int .i64 0, .slice none 0 0, .slice none 0 0, .slice none 0 0, .slice none 0 0]) := ⟨Try.underlying44, by kernel_rfl, by kernel_rfl, by kernel_rfl, by decide⟩
theorem flat2_len {α : Type} (A B : α → Value) : ∀ (l : List α), (l.flatMap fun p => [A p, B p]).length = l.length * 2
  | [] => rfl
  | x :: l => by rw [List.flatMap_cons, List.length_append, flat2_len A B l]; simp; omega
theorem Fam.cell {h : Heap} {sl : Ix → Option Addr} {cap : Ix → Nat} {cs : Ix → List Value} (F : Fam szG h sl cap cs) {x : Ix} {ad : Addr} (hx : sl x = some ad) {j : Nat} {v : Value} (hj : (cs x)[j]? = some v) : hcell h (ad.add j) = some v := by
  have o := F.own x; rw [hx] at o; exact o.cells.at hj
theorem modify_congr {α : Type} {l : List α} {i : Nat} (hi : i < l.length) {f g : α → α} (h : f l[i] = g l[i]) : l.modify i f = l.modify i g := by
  apply List.ext_getElem (by simp)
  intro j h1 h2
  rw [List.getElem_modify, List.getElem_modify]
  split
  · rename_i e; subst e; exact h
  · rfl
theorem modify_twice {α : Type} (l : List α) (i : Nat) (f g : α → α) : (l.modify i f).modify i g = l.modify i (fun x => g (f x)) := by
  apply List.ext_getElem (by simp)
  intro j h1 h2
  rw [List.getElem_modify, List.getElem_modify, List.getElem_modify]
  split <;> simp_all
theorem modify_last {α : Type} (l : List α) (x : α) (f : α → α) : (l ++ [x]).modify l.length f = l ++ [f x] := by
  apply List.ext_getElem (by simp)
  intro j h1 h2
  rw [List.getElem_modify]
  by_cases e : l.length = j
  · subst e; rw [if_pos rfl]; simp
  · have hj : j < l.length := by simp at h1; omega
    rw [if_neg e, List.getElem_append_left hj, List.getElem_append_left hj]
section
variable {h : Heap} {gs : List Grp} {tr : Nat → Sl Int} {sl : Ix → Option Addr} {cap : Ix → Nat} {cs : Ix → List Value}
theorem b2_c [Gh] {N : Nat} (G : GRel h gs tr sl cap cs) {i : Nat} (hi : i < gs.length) {m : Nat} (sm : ∀ g ∈ gs, g.pats.length ≤ m ∧ g.rules.length = g.pats.length ∧ g.always.length ≤ m ∧ ∀ l ∈ g.rules, l.length ≤ m) (hm : m ≤ 2 ^ 20) (k : Nat) (r : Ru) {t5 : Addr} (o5 : Own h t5 r.vals T_api_Rule) (h5 : ∀ x b, InA (sl x) b → b ≠ t5.block)
    (ok : r.ok h) (sh : ShortC r.Contents.xs) {ta : Option Addr} {tn tc : Nat} {tl t13 : Int} {Q : QT} {Kn : Option Addr × Nat × Nat × Int → Heap → Prop}
    (hk : ∀ h' sl' cap' cs', GRel h' (gs.modify i (addG k r)) tr sl' cap' cs' → Turned N h h' sl sl' → sl' xO = sl xO → cap' xO = cap xO → Kn (sl xO, gs.length, cap xO, IntKind.wrap .i64 (t13 + 1)) h') :
    fastpattern_Groups_b2 (sl xO) gs.length (cap xO) k t5 i ta tn tc tl t13 Q Kn h := by
  unfold fastpattern_Groups_b2
  obtain ⟨ad, eo, hs, cc⟩ := G.out hi
  have rw_ := G.row i hi
  obtain ⟨sm1, sm2, sm3, sm4⟩ := sm _ (List.getElem_mem hi)
  refine idxA_mk i rfl hi ?_
  generalize hoa : sl xO = oa at hk ⊢
  rw [hoa] at eo
  subst eo
  rw [Int.toNat_natCast]
  refine nn_mk ?_
  refine (ldI_mk (o5.cells.at0 rfl) (ldI_mk (o5.cells.at rfl) (ldL_mk (o5.cells.at rfl) (ldL_mk (o5.cells.at rfl) (ldL_mk (o5.cells.at rfl) (ldL_mk (o5.cells.at rfl) (ldB_mk (o5.cells.at rfl) (ldI_mk (o5.cells.at rfl) (ldI_mk (o5.cells.at rfl) (ldI_mk (o5.cells.at rfl) (ldS_mk (o5.cells.at rfl) (ldI_mk (o5.cells.at rfl) (ldI_mk (o5.cells.at rfl) (ldL_mk (o5.cells.at rfl) (ldL_mk (o5.cells.at rfl) (ldL_mk (o5.cells.at rfl) (ldL_mk (o5.cells.at rfl) (ldI_mk (o5.cells.at rfl) (ldI_mk (o5.cells.at rfl) (ldI_mk (o5.cells.at rfl) (ldI_mk (o5.cells.at rfl) ?_)))))))))))))))))))))
  refine Pattern_c r ok sh fun h1 f1 => ?_
  unfold patV
  cases hp : patL r.Contents.xs with
  | none =>
    refine ⟨bs [], false, false, rfl, ?_⟩
    refine cp_mk rfl rfl fun t8 h2 f2 _ o8 => ?_
    have f12 := f1.trans f2
    have G2 := G.fr f12
    have cc2 := Cells.fr0 f12 cc
    refine ifN (fun _ => ?_) (fun hx => by cases hx)
    refine ldL_mk (cc2.at rfl) ?_
    refine al_mk (vs := [.int .i64 k]) fun b h3 f3 hb3 o3 => ?_
    have es : (Try.t3).size = 1 := by kernel_rfl
    have eb : (Try.t3).bytes = 8 := by kernel_rfl
    have G3 := G2.fr f3
    refine Fam.app el_int Try.underlying27 (by intro k e; cases e) G3.fam (xA i) (by rw [es]; rfl) (by rw [rw_.al]; simp [intsV, szG]) rw_.ac (Src.one o3 (by rw [es]; rfl) 1) (by intro v hv; rw [List.mem_singleton.1 hv]; rfl) (by rw [eb]; omega) fun a' c' h4 F4 hc4 f4 hn4 => ⟨_, _, _, rfl, ?_⟩
    have nO : xO ≠ xA i := ix_ne (by decide) _ _ _ _
    have hO : put sl (xA i) a' xO = some ad := by rw [put_ne _ _ nO]; exact hoa
    rw [add_add0 hs]
    refine F4.set xO hO (by rw [put_ne _ _ nO, G.olen]; omega) rfl fun h5 F5 f5 => ?_
    have t4 : Turned N h h4 sl (put sl (xA i) a') := (Turned.of_fr (f12.trans f3)).trans (Turned.of_app f4 hn4)
    have t5' : Turned N h h5 sl (put sl (xA i) a') := t4.trans (Turned.of_set f5)
    have e : gs.modify i (addG k r) = gs.modify i fun g => { g with always := g.always ++ [(k : Int)] } := modify_congr hi (by unfold addG; rw [hp])
    rw [e] at hk
    exact hk _ _ _ _ (G.always hi k hc4 F5 t5') t5' ((put_ne _ _ nO).trans hoa) (put_ne _ _ nO)
  | some p =>
    refine ⟨bs p.1, p.2, true, rfl, ?_⟩
    refine cp_mk rfl rfl fun t8 h2 f2 _ o8 => ?_
    have f12 := f1.trans f2
    have G2 := G.fr f12
    have cc2 := Cells.fr0 f12 cc
    refine ifN (fun hx => by cases hx) (fun _ => ?_)
    refine ldL_mk (cc2.at rfl) ?_
    refine placeP_c G2 hi p o8 (by omega) fun h3 f3 => ⟨_, rfl, ?_⟩
    have f13 := f12.trans f3
    have G3 := G.fr f13
    have cc3 := Cells.fr0 f13 cc
    refine ldL_mk (cc3.at rfl) ?_
    have hle : gs[i].pats.findIdx (· == p) ≤ gs[i].pats.length := List.findIdx_le_length
    refine ifE (fun hq => ?_) (fun hq => ?_)
    · have hq' : gs[i].pats.findIdx (· == p) = gs[i].pats.length := by omega
      have o8' := Own.fr0 f3 o8
      refine ldL_mk (cc3.at rfl) (ldS_mk (o8'.cells.at0 rfl) (ldB_mk (o8'.cells.at rfl) ?_))
      refine al_mk fun b h4 f4 hb4 o4 => ?_
      have f14 := f13.trans f4
      have G4 := G.fr f14
      have cc4 := Cells.fr0 f14 cc
      refine ⟨ldL_mk (cc4.at rfl) rfl, ?_⟩
      have es : (Try.t37).size = 2 := by kernel_rfl
      have eb : (Try.t37).bytes = 24 := by kernel_rfl
      refine Fam.app el_pat Try.underlying46 (by intro k e; cases e) G4.fam (xP i) (by rw [es]; rfl) (by rw [rw_.pl, flat2_len (fun p : List UInt8 × Bool => Value.string (bs p.1)) (fun p => Value.bool p.2)]; rfl) rw_.pc (Src.one o4 (by rw [es]; rfl) 1) (by intro v hv; simp at hv; rcases hv with rfl | rfl <;> rfl) (by rw [eb]; omega) fun a1 c1 h5 F5 hc5 f5 hn5 => ⟨_, _, _, rfl, ?_⟩
      have nO : xO ≠ xP i := ix_ne (by decide) _ _ _ _
      have nRP : xR i ≠ xP i := ix_ne (by decide) _ _ _ _
      have nRO : xR i ≠ xO := ix_ne (by decide) _ _ _ _
      have nOR : xO ≠ xR i := ix_ne (by decide) _ _ _ _
      have nPO : xP i ≠ xO := ix_ne (by decide) _ _ _ _
      have nPR : xP i ≠ xR i := ix_ne (by decide) _ _ _ _
      have hO : put sl (xP i) a1 xO = some ad := by rw [put_ne _ _ nO]; exact hoa
      have hol := G.olen
      rw [add_add0 hs]
      refine F5.set xO hO (by rw [put_ne _ _ nO, hol]; omega) rfl fun h6 F6 f6 => ?_
      rw [add_add0 hs]
      refine ldL_mk (F6.cell hO (by rw [put_self, List.getElem?_set_ne (by omega), put_ne _ _ nO]; exact rw_.o3)) ?_
      refine al_mk (vs := [.slice none 0 0]) fun b2 h7 f7 hb7 o7 => ?_
      have F7 := F6.fr0 f7
      have es2 : (Try.t27).size = 1 := by kernel_rfl
      have eb2 : (Try.t27).bytes = 24 := by kernel_rfl
      have eR : put sl (xP i) a1 (xR i) = sl (xR i) := put_ne _ _ nRP
      have eRc : put cap (xP i) c1 (xR i) = cap (xR i) := put_ne _ _ nRP
      rw [← eR, ← eRc]
      refine Fam.app el_sl Try.underlying47 (by intro k e; cases e) F7 (xR i) (by rw [es2]; rfl) (by rw [put_ne _ _ nRO, put_ne _ _ nRP, rw_.rl]; simp [szG]) (by rw [eRc]; exact rw_.rc) (Src.one o7 (by rw [es2]; rfl) 1) (by intro v hv; rw [List.mem_singleton.1 hv]; rfl) (by rw [eb2]; omega) fun a2 c2 h8 F8 hc8 f8 hn8 => ⟨_, _, _, rfl, ?_⟩
      have hO8 : put (put sl (xP i) a1) (xR i) a2 xO = some ad := by rw [put_ne _ _ nOR]; exact hO
      refine F8.set xO hO8 (by rw [put_ne _ _ nOR, put_self, List.length_set, put_ne _ _ nO, hol]; omega) rfl fun h9 F9 f9 => ?_
      have t5' : Turned N h h5 sl (put sl (xP i) a1) := (Turned.of_fr f14).trans (Turned.of_app f5 hn5)
      have t7 : Turned N h h7 sl (put sl (xP i) a1) := (t5'.trans (Turned.of_set f6)).trans (Turned.of_fr f7)
      have t9 : Turned N h h9 sl (put (put sl (xP i) a1) (xR i) a2) := (t7.trans (Turned.of_app f8 hn8)).trans (Turned.of_set f9)
      have G9 := G.pattern hi p (a1 := a1) (a2 := a2) (c1 := c1) (c2 := c2) hc5 hc8 (by rw [put_self, put_ne _ _ nOR, put_self, put_ne _ _ nO])
        (by rw [put_ne _ _ nPO, put_ne _ _ nPR, put_ne _ _ nPO, put_self]) (by rw [put_ne _ _ nRO, put_self, put_ne _ _ nRO, put_ne _ _ nRP])
        (fun x h0 hP hR => by rw [put_ne _ _ h0, put_ne _ _ hR, put_ne _ _ h0, put_ne _ _ hP]) F9 t9
      have hi9 : i < (gs.modify i fun g => { g with pats := g.pats ++ [p], rules := g.rules ++ [[]] }).length := by rw [List.length_modify]; exact hi
      have e9 : (gs.modify i fun g => { g with pats := g.pats ++ [p], rules := g.rules ++ [[]] })[i] = { gs[i] with pats := gs[i].pats ++ [p], rules := gs[i].rules ++ [[]] } := by rw [List.getElem_modify, if_pos rfl]
      rw [hq']
      refine b3_c (N := N) G9 hi9 (n := gs[i].pats.length) (by rw [e9]; simp; omega) (by simp only [e9]; rw [List.getElem_append_right (by omega)]; simp) k hO8 fun h' sl' cap' cs' G' t' es' ec' => ?_
      have e : gs.modify i (addG k r) = (gs.modify i fun g => { g with pats := g.pats ++ [p], rules := g.rules ++ [[]] }).modify i fun g => { g with rules := g.rules.modify gs[i].pats.length (· ++ [(k : Int)]) } := by
        rw [modify_twice]
        refine modify_congr hi ?_
        unfold addG
        rw [hp]
        simp only
        rw [if_pos hq', ← sm2, modify_last]
        rfl
      rw [← e] at G'
      exact hk _ _ _ _ G' (t9.trans t') (by rw [es', hO8]) (by rw [ec', put_ne _ _ nOR, put_ne _ _ nO])
    · have hlt : gs[i].pats.findIdx (· == p) < gs[i].rules.length := by omega
      refine b3_c (N := N) G3 hi hlt (by have := sm4 _ (List.getElem_mem hlt); omega) k hoa fun h' sl' cap' cs' G' t' es' ec' => ?_
      have e : gs.modify i (addG k r) = gs.modify i fun g => { g with rules := g.rules.modify (gs[i].pats.findIdx (· == p)) (· ++ [(k : Int)]) } := by
        refine modify_congr hi ?_
        unfold addG
        rw [hp]
        simp only
        rw [if_neg (by omega)]
      rw [← e] at G'
      exact hk _ _ _ _ G' ((Turned.of_fr f13).trans t') (by rw [es', hoa]) ec'
end
end Go.Proofs.Ytjelnknmjhceiaa
