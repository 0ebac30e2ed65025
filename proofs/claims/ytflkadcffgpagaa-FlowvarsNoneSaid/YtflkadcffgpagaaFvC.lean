/-
  The program's variables in memory.
-/
import Derived.Test.YtflkadcffgpagaaFvB
import Derived.Ground.SlmcProg
import Derived.Shelf.Lay
import Derived.Shelf.SlMaps.Clone
namespace Go.Proofs
open Go.Shelf
shelf_lay_g SlLaysW.n5 Slmc 5 at Try 25 as Try.cloneF
end Go.Proofs
namespace Go.Proofs.Ytflkadcffgpagaa
set_option linter.unusedSimpArgs false
set_option linter.unusedVariables false
set_option maxRecDepth 20000
open Go
open Go.IntKind (wrap)
attribute [local irreducible] Addr.add stN st1 idxA idxS alV sliceStr LoopV
def setV (ks : List Nm) : List (Nm × Value) := ks.map fun k => (k, Value.bool true)
/-- A set of names. -/
def SetM (h : Heap) (r : Nat) (l : List Nm) : Prop := ∃ ks, MapI strE h r (setV ks) ∧ ks.Perm l
theorem SetM.fr {S : Nat → Prop} {h h' : Heap} {r : Nat} {l : List Nm} (M : SetM h r l) (f : Fr S h h') (hn : ¬ S r) : SetM h' r l := by
  obtain ⟨ks, I, p⟩ := M; exact ⟨ks, I.fr f hn, p⟩
theorem SetM.fr0 {h h' : Heap} {r : Nat} {l : List Nm} (f : Fr (fun _ => False) h h') (M : SetM h r l) : SetM h' r l := M.fr f id
theorem SetM.lt {h : Heap} {r : Nat} {l : List Nm} (M : SetM h r l) : r < h.size := by obtain ⟨ks, I, p⟩ := M; exact I.lt
theorem setT : KeyT Try.prog T_string strE := strKeyT Try.underlying9
theorem zeroB {h : Heap} {K : Value → Heap → Prop} (hk : K (.bool false) h) : wpH Try.prog (zeroValue T_bool) K h := zero_mk (i := Try.t4) (by kernel_rfl) (by kernel_rfl) hk
theorem mem_setV {ks : List Nm} {e : Nm × Value} : e ∈ setV ks ↔ e.1 ∈ ks ∧ e.2 = .bool true := by
  unfold setV
  rw [List.mem_map]
  constructor
  · rintro ⟨k, hk, rfl⟩; exact ⟨hk, rfl⟩
  · rintro ⟨h1, h2⟩; exact ⟨e.1, h1, by rw [← h2]⟩
theorem SetM.look [Gh] {h : Heap} {r : Nat} {l : List Nm} (M : SetM h r l) (k : Nm) {K : Value → Heap → Prop} (hk : K (.bool (decide (k ∈ l))) h) : lookV Try.prog T_map_string_bool (.map (some r)) (.string (bs k)) false h K := by
  obtain ⟨ks, I, p⟩ := M
  refine look_mk setT Try.underlying44 zeroB I k false ?_
  cases hg : getL (setV ks) k with
  | none =>
    rw [decide_eq_false (fun hm => getL_none hg (k, .bool true) (mem_setV.2 ⟨p.mem_iff.2 hm, rfl⟩) rfl)] at hk
    exact hk
  | some v =>
    have hm := mem_setV.1 (getL_some hg)
    have hv : v = .bool true := hm.2
    rw [decide_eq_true (p.mem_iff.1 hm.1)] at hk
    subst hv; exact hk
theorem SetM.del [Gh] {h : Heap} {r : Nat} {l : List Nm} (M : SetM h r l) (k : Nm) {kT ty : TypeId} {cs : Array Bool} {K : Value → Heap → Prop} (hk : ∀ h', Fr (fun b => b = r) h h' → h'.size = h.size → SetM h' r (withoutL l k) → K (.tuple #[]) h') :
    bltV Try.prog .delete #[T_map_string_bool, kT] ty cs #[.map (some r), .string (bs k)] h K := by
  obtain ⟨ks, I, p⟩ := M
  refine del_mk setT Try.underlying44 I k fun h' f s I' => hk h' f s ⟨withoutL ks k, ?_, p.filter _⟩
  have e : delL (setV ks) k = setV (withoutL ks k) := del_map (fun k => k) (fun _ => Value.bool true) ks k
  rw [e] at I'; exact I'
theorem ins_perm {s : Nm} : ∀ {l : List Nm}, (insL s l).Perm (s :: l)
  | [] => List.Perm.refl _
  | y :: l => by
    unfold insL; split
    · exact List.Perm.refl _
    · exact (ins_perm.cons y).trans (List.Perm.swap ..)
theorem SetM.put [Gh] {h : Heap} {r : Nat} {l : List Nm} (M : SetM h r l) (k : Nm) (hn : k ∉ l) {K : Heap → Prop} (hk : ∀ h', Fr (fun b => b = r) h h' → h'.size = h.size → SetM h' r (withL l k) → K h') :
    mapUpdV Try.prog T_map_string_bool (.map (some r)) (.string (bs k)) (.bool true) h K := by
  obtain ⟨ks, I, p⟩ := M
  refine mapUpd_mk setT Try.underlying44 I k (.bool true) fun h' f s I' => hk h' f s ⟨ks ++ [k], ?_, ?_⟩
  · rw [put_new (a := k) (fun e he hek => hn (p.mem_iff.1 (by have := (mem_setV.1 he).1; rw [hek] at this; exact this)))] at I'
    have e : setV (ks ++ [k]) = setV ks ++ [(k, .bool true)] := by unfold setV; rw [List.map_append]; rfl
    rw [e]; exact I'
  · unfold withL; rw [if_neg hn]
    exact (List.perm_append_comm).trans ((p.cons k).trans ins_perm.symm)
theorem SetM.len [Gh] {h : Heap} {r : Nat} {l : List Nm} (M : SetM h r l) {ty : TypeId} {cs : Array Bool} {K : Value → Heap → Prop} (hk : K (.int .i64 l.length) h) : bltV Try.prog .len #[T_map_string_bool] ty cs #[.map (some r)] h K := by
  obtain ⟨ks, I, p⟩ := M
  refine len_mk Try.underlying44 I ?_
  have : (setV ks).length = l.length := by unfold setV; rw [List.length_map, p.length_eq]
  rw [this]; exact hk
theorem clear_mk {P : Program} {mt ty : TypeId} {d : TypeDesc} (hu : P.underlying mt = some d) {h : Heap} {r : Nat} {κ : Type} {enc : κ → Value} {m : List (κ × Value)} (I : MapI enc h r m) {cs : Array Bool} {K : Value → Heap → Prop}
    (hk : ∀ h', Fr (fun b => b = r) h h' → h'.size = h.size → MapI enc h' r [] → K (.tuple #[]) h') : bltV P .clear #[mt] ty cs #[.map (some r)] h K := by
  obtain ⟨es, c, h1, h2, _⟩ := I
  unfold bltV
  show wpH P (Sem.bind (Builtin.clear_ #[mt] ty #[.map (some r)]) fun v => .pure (.value v)) (nxK K) h
  rw [wpH_bind]
  unfold Builtin.clear_
  simp only [bind, List.getElem?_toArray, List.getElem?_cons_zero]
  rw [wpH_bind]; refine wpH_underlying hu ?_
  rw [wpH_bind]; refine wpH_getObj h1 rfl ?_
  simp only
  rw [wpH_bind]
  refine wpH_setObj h1 rfl ?_
  exact hk _ (Fr.set _ _ rfl) (by simp) ⟨[], c, get_set h1, ⟨by simp, by simp, fun _ h => by cases h⟩, rfl⟩
theorem SetM.clear [Gh] {h : Heap} {r : Nat} {l : List Nm} (M : SetM h r l) {ty : TypeId} {cs : Array Bool} {K : Value → Heap → Prop} (hk : ∀ h', Fr (fun b => b = r) h h' → h'.size = h.size → SetM h' r [] → K (.tuple #[]) h') : bltV Try.prog .clear #[T_map_string_bool] ty cs #[.map (some r)] h K := by
  obtain ⟨ks, I, p⟩ := M
  exact clear_mk Try.underlying44 I fun h' f s I' => hk h' f s ⟨[], I', List.Perm.refl _⟩
/-- A copy of a set. -/
theorem SetM.clone [Gh] {h : Heap} {r : Nat} {l : List Nm} (M : SetM h r l) {K : Value → Heap → Prop} (hk : ∀ r' h', Fr (fun _ => False) h h' → h.size ≤ r' → SetM h' r' l → K (.map (some r')) h') : CallT Try.prog fn_maps_Clone_map_string_bool_string_bool #[.map (some r)] h K := by
  obtain ⟨ks, ⟨es, c, h1, h2, h3⟩, p⟩ := M
  intro w hw hs
  have hrun : (callFunc fn_maps_Clone_map_string_bool_string_bool #[.map (some r)]).run Try.prog w = .ok (.enter fn_maps_Clone_map_string_bool_string_bool #[.map (some r)]) w := rfl
  rw [hrun]
  simp only
  refine (AnyW.maps_Clone Try.cloneF r (es.map (mkE strE)).toArray c w (by rw [hw]; exact h1)).mono ?_
  rintro e w' ⟨rfl, rfl⟩
  refine ⟨_, rfl, ?_, hs⟩
  have hh : (w.alloc (.map (es.map (mkE strE)).toArray c)).heap = h.push (.map (es.map (mkE strE)).toArray c) := by rw [← hw]; rfl
  rw [hh, hw]
  exact hk _ _ (Fr.push _ _ _) (Nat.le_refl _) ⟨ks, ⟨es, c, get_push_self, h2, h3⟩, p⟩
/-! ### The variables -/
structure VarF (ok : Nat → Prop) (h : Heap) (v : Addr) (r1 r2 : Nat) (l1 l2 : List Nm) : Prop where
  own : Own h v [.map (some r1), .map (some r2)] T_flowvars_Vars
  m1 : SetM h r1 l1
  m2 : SetM h r2 l2
  r12 : r1 ≠ r2
  rv : r1 ≠ v.block ∧ r2 ≠ v.block
  okv : ok v.block
  okr : ok r1 ∧ ok r2
theorem VarF.fr {ok : Nat → Prop} {h h' : Heap} {v : Addr} {r1 r2 : Nat} {l1 l2 : List Nm} (V : VarF ok h v r1 r2 l1 l2) {P : Nat → Prop} (f : Fr P h h') (hP : ∀ b, b < h.size → P b → ¬ ok b) : VarF ok h' v r1 r2 l1 l2 :=
  { V with own := V.own.fr f fun hp => hP _ V.own.lt hp V.okv, m1 := V.m1.fr f fun hp => hP _ V.m1.lt hp V.okr.1, m2 := V.m2.fr f fun hp => hP _ V.m2.lt hp V.okr.2 }
theorem VarF.fr0 {ok : Nat → Prop} {h h' : Heap} {v : Addr} {r1 r2 : Nat} {l1 l2 : List Nm} (f : Fr (fun _ => False) h h') (V : VarF ok h v r1 r2 l1 l2) : VarF ok h' v r1 r2 l1 l2 := V.fr f fun _ _ h => h.elim
theorem VarF.to {ok ok' : Nat → Prop} {h : Heap} {v : Addr} {r1 r2 : Nat} {l1 l2 : List Nm} (V : VarF ok h v r1 r2 l1 l2) (h1 : ok' v.block) (h2 : ok' r1) (h3 : ok' r2) : VarF ok' h v r1 r2 l1 l2 := { V with okv := h1, okr := ⟨h2, h3⟩ }
def selL (dir : Int) (l1 l2 : List Nm) : List Nm := if dir = 1 then l1 else if dir = 2 then l2 else []
theorem new_c [Gh] {h : Heap} {Q : Value → Heap → Prop} (hk : ∀ v r1 r2 h', Fr (fun _ => False) h h' → VarF (fun b => h.size ≤ b) h' v r1 r2 [] [] → Q (.pointer (some v)) h') : CallT Try.prog fn_flowvars_New #[] h Q := by
  apply flowvars_New_s
  unfold flowvars_New_v
  refine mkMap_mk strE fun r1 h1 f1 e1 I1 => ?_
  refine mkMap_mk strE fun r2 h2 f2 e2 I2 => ?_
  refine al_mk (vs := [.map (some r1), .map (some r2)]) fun v h3 f3 e3 o3 => ?_
  have l1 := I1.lt
  have l2 := I2.lt
  have z1 := f1.size
  have z2 := f2.size
  exact hk v r1 r2 h3 ((f1.trans f2).trans f3) ⟨o3, ⟨[], (I1.fr f2 id).fr f3 id, List.Perm.refl _⟩, ⟨[], I2.fr f3 id, List.Perm.refl _⟩, by omega, by omega, by omega, by omega⟩
theorem right_c [Gh] (dir : Int) {h : Heap} {Q : Value → Heap → Prop} (hk : Q (.bool (decide (dir = 1 ∨ dir = 2))) h) : CallT Try.prog fn_flowvars_right #[.int .i64 dir] h Q := by
  apply flowvars_right_s
  unfold flowvars_right_v
  refine ifE (fun e => ?_) fun e => ?_
  · rw [decide_eq_true (.inl e)] at hk; exact hk
  · refine Qeq hk ?_
    congr 1
    rw [Bool.eq_iff_iff, beq_iff_eq, decide_eq_true_eq]
    exact ⟨fun h => h.resolve_left e, .inr⟩
theorem has_c [Gh] {ok : Nat → Prop} {h : Heap} {v : Addr} {r1 r2 : Nat} {l1 l2 : List Nm} (V : VarF ok h v r1 r2 l1 l2) (dir : Int) (k : Nm) {Q : Value → Heap → Prop} (hk : Q (.bool (decide (k ∈ selL dir l1 l2))) h) :
    CallT Try.prog fn_flowvars_Vars_has #[.pointer (some v), .int .i64 dir, .string (bs k)] h Q := by
  apply flowvars_Vars_has_s
  unfold flowvars_Vars_has_v
  refine right_c dir ⟨_, rfl, ?_⟩
  refine ifD (fun e => ?_) fun e => ?_
  · refine nn_mk ?_
    unfold selL at hk
    rcases e with rfl | rfl
    · refine idxA_mk 0 (by decide) (by omega) ?_
      rw [show (wrap .i64 (1 - 1)).toNat * 1 = 0 from by decide]
      refine ldM_mk (V.own.cells.at (j := 0) rfl) (V.m1.look k ⟨_, rfl, hk⟩)
    · refine idxA_mk 1 (by decide) (by omega) ?_
      rw [show (wrap .i64 (2 - 1)).toNat * 1 = 1 from by decide]
      refine ldM_mk (V.own.cells.at (j := 1) rfl) (V.m2.look k ⟨_, rfl, hk⟩)
  · unfold selL at hk
    rw [if_neg (fun h => e (.inl h)), if_neg (fun h => e (.inr h)), decide_eq_false (by simp)] at hk
    exact hk
theorem holds_c [Gh] {ok : Nat → Prop} {h : Heap} {v : Addr} {r1 r2 : Nat} {l1 l2 : List Nm} (V : VarF ok h v r1 r2 l1 l2) (dir : Int) {w : Sl S_api_FlowOp} (ow : SlOk 2 S_api_FlowOp.vals S_api_FlowOp.ok h w) (hw : w.xs.length ≤ 2 ^ 40) {Q : Value → Heap → Prop}
    (hk : ∀ h', Fr (fun _ => False) h h' → Q (.bool (holdsB (selL dir l1 l2) w.xs)) h') :
    CallT Try.prog fn_flowvars_Vars_Holds #[.pointer (some v), .int .i64 dir, .slice w.p w.xs.length w.cap] h Q := by
  apply flowvars_Vars_Holds_s
  unfold flowvars_Vars_Holds_v
  refine ifNS ?_
  refine LoopV.mk (fun s h' => ∃ i : Nat, s = (i : Int) ∧ i ≤ w.xs.length ∧ Fr (fun _ => False) h h' ∧ holdsB (selL dir l1 l2) (w.xs.take i) = true) (fun s _ => w.xs.length - s.toNat) ⟨0, rfl, by omega, Fr.refl _ _, rfl⟩ ?_
  rintro - h1 ⟨i, rfl, hi, f1, hb⟩
  unfold flowvars_Vars_Holds_l1
  refine ifD (fun e => ?_) fun e => ?_
  · have hlt : i < w.xs.length := by omega
    have htk : w.xs.take (i + 1) = w.xs.take i ++ [w.xs[i]] := by rw [List.take_append_getElem]
    refine idx_sl (SlOk.fr0 S_api_FlowOp.ok_fr f1 ow) i rfl hlt fun ad c _ => ?_
    rw [Int.toNat_natCast]
    have no : (!(decide (w.xs[i].Op = 3) && !decide (w.xs[i].Name ∈ selL dir l1 l2)) && !(decide (w.xs[i].Op = 4) && decide (w.xs[i].Name ∈ selL dir l1 l2))) = false → holdsB (selL dir l1 l2) w.xs = false := fun hn => by
      unfold holdsB; rw [List.all_eq_false]; exact ⟨w.xs[i], List.getElem_mem hlt, by rw [hn]; decide⟩
    have go : ∀ h2, Fr (fun _ => False) h h2 → (!(decide (w.xs[i].Op = 3) && !decide (w.xs[i].Name ∈ selL dir l1 l2)) && !(decide (w.xs[i].Op = 4) && decide (w.xs[i].Name ∈ selL dir l1 l2))) = true → (∃ k : Nat, wrap .i64 ((i : Int) + 1) = (k : Int) ∧ k ≤ w.xs.length ∧ Fr (fun _ => False) h h2 ∧ holdsB (selL dir l1 l2) (w.xs.take k) = true) ∧ w.xs.length - (wrap .i64 ((i : Int) + 1)).toNat < w.xs.length - (i : Int).toNat := fun h2 f2 ht => by
      rw [wr (by omega) (by omega)]
      refine ⟨⟨i + 1, rfl, hlt, f2, ?_⟩, by omega⟩
      unfold holdsB at hb ⊢
      rw [htk, List.all_append, hb, List.all_cons, ht]; rfl
    have c : Cells h1 (ad.add (i * 2)) [.int .i64 w.xs[i].Op, .string (bs w.xs[i].Name)] := c
    generalize w.xs[i].Op = op at *
    generalize w.xs[i].Name = nm at *
    have H := Hs.pure h1
    repeat (first | (first | refine ldI_mk (by first | exact c.at rfl | exact c.at0 rfl) ?_ | refine ldB_mk (by first | exact c.at rfl | exact c.at0 rfl) ?_ | refine ldL_mk (by first | exact c.at rfl | exact c.at0 rfl) ?_ | refine ldP_mk (by first | exact c.at rfl | exact c.at0 rfl) ?_ | refine ldS_mk (by first | exact c.at rfl | exact c.at0 rfl) ?_ | refine ldM_mk (by first | exact c.at rfl | exact c.at0 rfl) ?_) | refine nn_mk ?_ | refine And.intro (by (repeat (first | refine ldI_mk (by first | exact c.at rfl | exact c.at0 rfl) ?_ | refine ldB_mk (by first | exact c.at rfl | exact c.at0 rfl) ?_ | refine ldL_mk (by first | exact c.at rfl | exact c.at0 rfl) ?_ | refine ldP_mk (by first | exact c.at rfl | exact c.at0 rfl) ?_ | refine ldS_mk (by first | exact c.at rfl | exact c.at0 rfl) ?_ | refine ldM_mk (by first | exact c.at rfl | exact c.at0 rfl) ?_)); exact rfl) ?_ | refine ifNS ?_ | refine And.intro (by decide) ?_)
    refine al_H H fun t8 h2 H l8 => ?_
    refine stN_H H 0 rfl (by rfl) (by rfl) fun h3 H => ?_
    have V3 := V.fr0 (f1.trans H.fr0)
    have F := f1.trans H.fr0
    have C0 := (H.get 0 rfl).cells; repeat (first | (first | refine ldI_mk (by first | exact C0.at rfl | exact C0.at0 rfl) ?_ | refine ldB_mk (by first | exact C0.at rfl | exact C0.at0 rfl) ?_ | refine ldL_mk (by first | exact C0.at rfl | exact C0.at0 rfl) ?_ | refine ldP_mk (by first | exact C0.at rfl | exact C0.at0 rfl) ?_ | refine ldS_mk (by first | exact C0.at rfl | exact C0.at0 rfl) ?_ | refine ldM_mk (by first | exact C0.at rfl | exact C0.at0 rfl) ?_) | refine nn_mk ?_ | refine And.intro (by (repeat (first | refine ldI_mk (by first | exact C0.at rfl | exact C0.at0 rfl) ?_ | refine ldB_mk (by first | exact C0.at rfl | exact C0.at0 rfl) ?_ | refine ldL_mk (by first | exact C0.at rfl | exact C0.at0 rfl) ?_ | refine ldP_mk (by first | exact C0.at rfl | exact C0.at0 rfl) ?_ | refine ldS_mk (by first | exact C0.at rfl | exact C0.at0 rfl) ?_ | refine ldM_mk (by first | exact C0.at rfl | exact C0.at0 rfl) ?_)); exact rfl) ?_ | refine ifNS ?_ | refine And.intro (by decide) ?_)
    refine ifE (fun e1 => ?_) fun e1 => ?_
    · subst e1
      have C0 := (H.get 0 rfl).cells; repeat (first | (first | refine ldI_mk (by first | exact C0.at rfl | exact C0.at0 rfl) ?_ | refine ldB_mk (by first | exact C0.at rfl | exact C0.at0 rfl) ?_ | refine ldL_mk (by first | exact C0.at rfl | exact C0.at0 rfl) ?_ | refine ldP_mk (by first | exact C0.at rfl | exact C0.at0 rfl) ?_ | refine ldS_mk (by first | exact C0.at rfl | exact C0.at0 rfl) ?_ | refine ldM_mk (by first | exact C0.at rfl | exact C0.at0 rfl) ?_) | refine nn_mk ?_ | refine And.intro (by (repeat (first | refine ldI_mk (by first | exact C0.at rfl | exact C0.at0 rfl) ?_ | refine ldB_mk (by first | exact C0.at rfl | exact C0.at0 rfl) ?_ | refine ldL_mk (by first | exact C0.at rfl | exact C0.at0 rfl) ?_ | refine ldP_mk (by first | exact C0.at rfl | exact C0.at0 rfl) ?_ | refine ldS_mk (by first | exact C0.at rfl | exact C0.at0 rfl) ?_ | refine ldM_mk (by first | exact C0.at rfl | exact C0.at0 rfl) ?_)); exact rfl) ?_ | refine ifNS ?_ | refine And.intro (by decide) ?_)
      refine has_c V3 dir nm ⟨_, rfl, ?_⟩
      refine ifN (fun e2 => ?_) fun e2 => ?_
      · rw [no (by rw [e2]; rfl)] at hk; exact hk h3 F
      have C0 := (H.get 0 rfl).cells; repeat (first | (first | refine ldI_mk (by first | exact C0.at rfl | exact C0.at0 rfl) ?_ | refine ldB_mk (by first | exact C0.at rfl | exact C0.at0 rfl) ?_ | refine ldL_mk (by first | exact C0.at rfl | exact C0.at0 rfl) ?_ | refine ldP_mk (by first | exact C0.at rfl | exact C0.at0 rfl) ?_ | refine ldS_mk (by first | exact C0.at rfl | exact C0.at0 rfl) ?_ | refine ldM_mk (by first | exact C0.at rfl | exact C0.at0 rfl) ?_) | refine nn_mk ?_ | refine And.intro (by (repeat (first | refine ldI_mk (by first | exact C0.at rfl | exact C0.at0 rfl) ?_ | refine ldB_mk (by first | exact C0.at rfl | exact C0.at0 rfl) ?_ | refine ldL_mk (by first | exact C0.at rfl | exact C0.at0 rfl) ?_ | refine ldP_mk (by first | exact C0.at rfl | exact C0.at0 rfl) ?_ | refine ldS_mk (by first | exact C0.at rfl | exact C0.at0 rfl) ?_ | refine ldM_mk (by first | exact C0.at rfl | exact C0.at0 rfl) ?_)); exact rfl) ?_ | refine ifNS ?_ | refine And.intro (by decide) ?_)
      rw [if_neg (by decide)]
      exact go h3 F (by rw [e2]; rfl)
    · have C0 := (H.get 0 rfl).cells; repeat (first | (first | refine ldI_mk (by first | exact C0.at rfl | exact C0.at0 rfl) ?_ | refine ldB_mk (by first | exact C0.at rfl | exact C0.at0 rfl) ?_ | refine ldL_mk (by first | exact C0.at rfl | exact C0.at0 rfl) ?_ | refine ldP_mk (by first | exact C0.at rfl | exact C0.at0 rfl) ?_ | refine ldS_mk (by first | exact C0.at rfl | exact C0.at0 rfl) ?_ | refine ldM_mk (by first | exact C0.at rfl | exact C0.at0 rfl) ?_) | refine nn_mk ?_ | refine And.intro (by (repeat (first | refine ldI_mk (by first | exact C0.at rfl | exact C0.at0 rfl) ?_ | refine ldB_mk (by first | exact C0.at rfl | exact C0.at0 rfl) ?_ | refine ldL_mk (by first | exact C0.at rfl | exact C0.at0 rfl) ?_ | refine ldP_mk (by first | exact C0.at rfl | exact C0.at0 rfl) ?_ | refine ldS_mk (by first | exact C0.at rfl | exact C0.at0 rfl) ?_ | refine ldM_mk (by first | exact C0.at rfl | exact C0.at0 rfl) ?_)); exact rfl) ?_ | refine ifNS ?_ | refine And.intro (by decide) ?_)
      refine ifE (fun e3 => ?_) fun e3 => ?_
      · subst e3
        have C0 := (H.get 0 rfl).cells; repeat (first | (first | refine ldI_mk (by first | exact C0.at rfl | exact C0.at0 rfl) ?_ | refine ldB_mk (by first | exact C0.at rfl | exact C0.at0 rfl) ?_ | refine ldL_mk (by first | exact C0.at rfl | exact C0.at0 rfl) ?_ | refine ldP_mk (by first | exact C0.at rfl | exact C0.at0 rfl) ?_ | refine ldS_mk (by first | exact C0.at rfl | exact C0.at0 rfl) ?_ | refine ldM_mk (by first | exact C0.at rfl | exact C0.at0 rfl) ?_) | refine nn_mk ?_ | refine And.intro (by (repeat (first | refine ldI_mk (by first | exact C0.at rfl | exact C0.at0 rfl) ?_ | refine ldB_mk (by first | exact C0.at rfl | exact C0.at0 rfl) ?_ | refine ldL_mk (by first | exact C0.at rfl | exact C0.at0 rfl) ?_ | refine ldP_mk (by first | exact C0.at rfl | exact C0.at0 rfl) ?_ | refine ldS_mk (by first | exact C0.at rfl | exact C0.at0 rfl) ?_ | refine ldM_mk (by first | exact C0.at rfl | exact C0.at0 rfl) ?_)); exact rfl) ?_ | refine ifNS ?_ | refine And.intro (by decide) ?_)
        refine has_c V3 dir nm ⟨_, rfl, ?_⟩
        refine ifB (fun e2 => ?_) fun e2 => ?_
        · rw [no (by rw [e2]; rfl)] at hk; exact hk h3 F
        · exact go h3 F (by rw [e2]; rfl)
      · exact go h3 F (by rw [decide_eq_false e1, decide_eq_false e3]; rfl)
  · rw [List.take_of_length_le (by omega)] at hb
    rw [hb] at hk
    exact hk h1 f1
end Go.Proofs.Ytflkadcffgpagaa
