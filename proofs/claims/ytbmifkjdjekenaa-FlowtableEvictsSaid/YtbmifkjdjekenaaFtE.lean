/-
  Ids, least, drop of the program.
-/
import Derived.Test.YtbmifkjdjekenaaFtD
import Derived.Test.YtbmifkjdjekenaaSortK
import Derived.Ground.NamesProg
import Derived.Shelf.Lay
namespace Go.Proofs
open Go.Shelf
shelf_lay Lays.n189 Nm 189 at Try as Try.lays189
end Go.Proofs
namespace Go.Proofs.Ytbmifkjdjekenaa
set_option linter.unusedSimpArgs false
set_option linter.unusedVariables false
set_option maxRecDepth 20000
open Go
open Go.IntKind (wrap)
attribute [local irreducible] Addr.add stN st1 idxA idxS alV sliceStr LoopV
def intV (n : Int) : List Value := [.int .i64 n]
theorem intV_len (n : Int) : (intV n).length = 1 := rfl
def sortL (xs : List Int) : List Int := xs.mergeSort fun x y => decide (x ≤ y)
theorem sortI_c [Gh] {p : Option Addr} {cap : Nat} {xs : List Int} {h : Heap} (R : Row 1 intV h p cap xs) (hl : xs.length ≤ 2 ^ 40) {K : Value → Heap → Prop}
    (hk : ∀ h', Fr (InA p) h h' → Row 1 intV h' p cap (sortL xs) → K (.tuple #[]) h') : CallT Try.prog fn_slices_Sort_int_int #[.slice p xs.length cap] h K := by
  cases p with
  | none =>
    have : xs = [] := by
      cases xs with
      | nil => rfl
      | cons x xs => have := R.own.1; simp [intV] at this
    subst this
    refine none_bridge (fun _ _ => rfl) (fun w => Any.slices_Sort_int_none Try.lays189 none cap w) ?_
    exact hk h (Fr.refl _ _) (by simpa [sortL] using R)
  | some ad =>
    exact sort_bridge (enc := Value.int .i64) (ys := sortL xs) (fun _ _ => rfl) (List.length_mergeSort xs) R (fun w hw hH hb => Any.slices_Sort_int Try.lays189 ad.block 0 cap xs w hH hb (by omega)) hk
theorem sorted_eq : ∀ {xs ys : List Int}, xs.Perm ys → xs.Pairwise (· ≤ ·) → ys.Pairwise (· < ·) → xs = ys
  | [], ys, p, _, _ => (List.Perm.nil_eq p)
  | x :: xs, [], p, _, _ => by have := p.length_eq; simp at this
  | x :: xs, y :: ys, p, h1, h2 => by
    rw [List.pairwise_cons] at h1 h2
    have e : x = y := by
      have hx : x ∈ y :: ys := p.mem_iff.1 (by simp)
      have hy : y ∈ x :: xs := p.mem_iff.2 (by simp)
      rcases List.mem_cons.1 hx with e | hx
      · exact e
      · rcases List.mem_cons.1 hy with e | hy
        · exact e.symm
        · have := h1.1 y hy; have := h2.1 x hx; omega
    subst e
    rw [sorted_eq (List.Perm.cons_inv p) h1.2 h2.2]
theorem sortL_eq {xs ys : List Int} (p : xs.Perm ys) (h : ys.Pairwise (· < ·)) : sortL xs = ys := by
  refine sorted_eq ((List.mergeSort_perm xs _).trans p) ?_ h
  have := List.pairwise_mergeSort (le := fun (x y : Int) => decide (x ≤ y)) (fun a b c h1 h2 => by simp only [decide_eq_true_eq] at *; omega) (fun a b => by simp only [Bool.or_eq_true, decide_eq_true_eq]; omega) xs
  exact this.imp fun h => of_decide_eq_true h
theorem el_int : ElemT Try.prog T_sl_int T_int Try.t3 (.int .i64 0) := ⟨Try.underlying27, by kernel_rfl, by kernel_rfl, by kernel_rfl, by decide +kernel⟩
/-- A number is appended. -/
theorem appI [Gh] {h : Heap} {p : Option Addr} {cap : Nat} {L : List Int} (R : Row 1 intV h p cap L) {e : Int} {b : Addr} (ob : Own h b (intV e) T_int) (hl : L.length ≤ 2 ^ 29) {K : Value → Heap → Prop}
    (hk : ∀ p' cap' h', Row 1 intV h' p' cap' (L ++ [e]) → Fr (InA p) h h' → (∀ b, InA p' b → InA p b ∨ h.size ≤ b) → K (.slice p' (L ++ [e]).length cap') h') :
    bltV Try.prog .append #[T_sl_int, T_sl_int] T_sl_int #[false, false] #[.slice p L.length cap, .slice (some b) 1 1] h K :=
  R.app el_int Try.underlying27 (by intro k e; cases e) (by kernel_rfl) (by decide +kernel) intV_len (fun _ => rfl) ob 1 hl hk
theorem ids_c [Gh] {ok : Nat → Prop} {h : Heap} {t : Addr} {r1 r2 : Nat} {st : St} {S : List PE} (R : TabF ok h t r1 r2 st S) (w : Wf st) {Q : Value → Heap → Prop}
    (hk : ∀ p cap h', Fr (fun _ => False) h h' → Row 1 intV h' p cap (st.L.map (·.id)) → (∀ b, InA p b → h.size ≤ b) → Q (.slice p (st.L.map (·.id)).length cap) h') :
    CallT Try.prog fn_flowtable_Table_Ids #[.pointer (some t)] h Q := by
  apply flowtable_Table_Ids_s
  unfold flowtable_Table_Ids_v
  refine ifNS ?_
  have ct := R.own.cells
  repeat (first | (first | refine ldI_mk (by first | exact ct.at rfl | exact ct.at0 rfl) ?_ | refine ldB_mk (by first | exact ct.at rfl | exact ct.at0 rfl) ?_ | refine ldL_mk (by first | exact ct.at rfl | exact ct.at0 rfl) ?_ | refine ldP_mk (by first | exact ct.at rfl | exact ct.at0 rfl) ?_ | refine ldS_mk (by first | exact ct.at rfl | exact ct.at0 rfl) ?_ | refine ldM_mk (by first | exact ct.at rfl | exact ct.at0 rfl) ?_) | refine nn_mk ?_ | refine And.intro (by (repeat (first | refine ldI_mk (by first | exact ct.at rfl | exact ct.at0 rfl) ?_ | refine ldB_mk (by first | exact ct.at rfl | exact ct.at0 rfl) ?_ | refine ldL_mk (by first | exact ct.at rfl | exact ct.at0 rfl) ?_ | refine ldP_mk (by first | exact ct.at rfl | exact ct.at0 rfl) ?_ | refine ldS_mk (by first | exact ct.at rfl | exact ct.at0 rfl) ?_ | refine ldM_mk (by first | exact ct.at rfl | exact ct.at0 rfl) ?_)); exact rfl) ?_ | refine ifNS ?_ | refine And.intro (by decide) ?_)
  refine range_mk Try.underlying56 R.m1 fun it h1 f1 e1 I1 => ⟨it, rfl, ?_⟩
  have hr := R.m1.lt
  have hS : S.length ≤ 64 := by have := R.perm.length_eq; have := w.len64; rw [List.length_map] at *; omega
  refine LoopV.mk (fun s h' => ∃ (rest : List PE) (done : List Int), s.2.1 = done.length ∧ IterI (intE .i64) h' it r1 (S.map fun c => (c.id, Value.pointer (some c.p))) (rest.map fun c => (c.id, Value.pointer (some c.p))) ∧ Row 1 intV h' s.1 s.2.2 done ∧ (done ++ rest.map (·.id)).Perm (S.map (·.id)) ∧ Fr (fun _ => False) h h' ∧ ∀ b, InA s.1 b → h.size ≤ b ∧ b ≠ it) (fun _ h' => leftN h' it r1)
    ⟨S, [], rfl, I1, Row.nil, List.Perm.refl _, f1, fun b hb => (notInA hb).elim⟩ ?_
  rintro ⟨a, n, c⟩ h2 ⟨rest, done, hn, I2, R2, hp, f2, ha⟩
  dsimp only at hn R2 ha
  subst hn
  rw [I2.left]
  have hd : done.length ≤ 64 := by have := hp.length_eq; simp at this; omega
  unfold flowtable_Table_Ids_l1
  refine next_mk I2 (fun hn => ⟨fun _ => ?_, fun h => absurd rfl h⟩) fun a' x b' h3 hab hx f3 s3 I3 C3 => ⟨fun h => by simp at h, fun _ => ⟨_, _, rfl, ?_⟩⟩
  · have hn : rest = [] := by simpa using hn
    subst hn
    rw [List.map_nil, List.append_nil] at hp
    unfold flowtable_Table_Ids_b2
    refine sortI_c R2 (by omega) fun h4 f4 R4 => ⟨rfl, ?_⟩
    have es : sortL done = st.L.map (·.id) := sortL_eq (hp.trans (by have := R.perm.map (·.id); rw [List.map_map] at this; exact this)) w.asc
    have el : done.length = (st.L.map (·.id)).length := by rw [← es]; exact (List.length_mergeSort done).symm
    rw [es] at R4
    rw [el]
    exact hk a c h4 (f2.tr f4 fun b hb hi => by have := (ha b hi).1; omega) R4 fun b hb => (ha b hb).1
  · obtain ⟨ra, rb', er, ea, eb⟩ := List.map_eq_append_iff.1 hab
    obtain ⟨cx, rb, erb, ecx, eb2⟩ := List.map_eq_cons_iff.1 eb
    subst er erb ecx ea eb2
    refine entry_mk C3 ⟨_, _, rfl, ?_⟩
    refine dI_intro (n := cx.id) rfl ?_
    have f23 : Fr (fun _ => False) h h3 := f2.tr f3 fun b hb hi => by omega
    refine al_mk (vs := intV cx.id) fun bq h4 f4 e4 o4 => ?_
    have z1 := f1.size
    have z23 := f23.size
    have hit := I3.lt
    refine appI ((R2.fr f3 fun b hb h => (ha b hb).2 h).fr0 f4) o4 (by omega) fun p' c' h5 R5 f5 hn5 => ⟨_, _, _, rfl, ?_⟩
    have I5 := (I3.fr f4 id id).fr f5 (fun h => by have := ha _ h; omega) (fun h => (ha _ h).2 rfl)
    have hperm : (done ++ [cx.id] ++ (ra ++ rb).map (·.id)).Perm (S.map (·.id)) := by
      refine List.Perm.trans ?_ hp
      rw [List.append_assoc]
      refine (List.perm_append_left_iff _).2 ?_
      rw [List.map_append, List.map_append, List.map_cons, List.singleton_append]
      exact (List.perm_middle).symm
    rw [← List.map_append] at I5
    refine ⟨⟨ra ++ rb, done ++ [cx.id], rfl, I5, R5, hperm, (f23.trans f4).tr f5 fun b hb hi => by have := (ha b hi).1; omega, fun b hb => ?_⟩, by rw [I5.left]; simp⟩
    rcases hn5 b hb with hb | hb
    · exact ha b hb
    · have z4 := f4.size; omega
theorem befE_f {x y : FEn} (h : ¬ (x.value < y.value ∨ x.value = y.value ∧ (x.last < y.last ∨ x.last = y.last ∧ x.id < y.id))) : befE x y = false := decide_eq_false h
theorem least_c [Gh] {ok : Nat → Prop} {h : Heap} {t : Addr} {r1 r2 : Nat} {st : St} {S : List PE} (R : TabF ok h t r1 r2 st S) (w : Wf st) (hS : st.L ≠ []) {Q : Value → Heap → Prop}
    (hk : ∀ c ∈ S, IsLeast st.L c.ent → ∀ h', Fr (fun _ => False) h h' → Q (.int .i64 c.id) h') :
    CallT Try.prog fn_flowtable_Table_least #[.pointer (some t)] h Q := by
  apply flowtable_Table_least_s
  unfold flowtable_Table_least_v
  have ct := R.own.cells
  repeat (first | (first | refine ldI_mk (by first | exact ct.at rfl | exact ct.at0 rfl) ?_ | refine ldB_mk (by first | exact ct.at rfl | exact ct.at0 rfl) ?_ | refine ldL_mk (by first | exact ct.at rfl | exact ct.at0 rfl) ?_ | refine ldP_mk (by first | exact ct.at rfl | exact ct.at0 rfl) ?_ | refine ldS_mk (by first | exact ct.at rfl | exact ct.at0 rfl) ?_ | refine ldM_mk (by first | exact ct.at rfl | exact ct.at0 rfl) ?_) | refine nn_mk ?_ | refine And.intro (by (repeat (first | refine ldI_mk (by first | exact ct.at rfl | exact ct.at0 rfl) ?_ | refine ldB_mk (by first | exact ct.at rfl | exact ct.at0 rfl) ?_ | refine ldL_mk (by first | exact ct.at rfl | exact ct.at0 rfl) ?_ | refine ldP_mk (by first | exact ct.at rfl | exact ct.at0 rfl) ?_ | refine ldS_mk (by first | exact ct.at rfl | exact ct.at0 rfl) ?_ | refine ldM_mk (by first | exact ct.at rfl | exact ct.at0 rfl) ?_)); exact rfl) ?_ | refine ifNS ?_ | refine And.intro (by decide) ?_)
  refine range_mk Try.underlying56 R.m1 fun it h1 f1 e1 I1 => ⟨it, rfl, ?_⟩
  have hr := R.m1.lt
  have hid : ∀ c ∈ S, 1 ≤ c.id := fun c hc => (w.ids c.ent (R.mem.2 ⟨c, hc, rfl⟩)).1
  refine LoopV.mk (fun s h' => ∃ (rest : List PE) (cur : Option PE), s = (cur.map (·.id)).getD 0 ∧ IterI (intE .i64) h' it r1 (S.map fun c => (c.id, Value.pointer (some c.p))) (rest.map fun c => (c.id, Value.pointer (some c.p))) ∧ Fr (fun _ => False) h h' ∧ (∀ c, cur = some c → c ∈ S) ∧ (∀ c ∈ rest, c ∈ S) ∧ ∀ y ∈ S, y ∈ rest ∨ ∃ c, cur = some c ∧ befE y.ent c.ent = false) (fun _ h' => leftN h' it r1)
    ⟨S, none, rfl, I1, f1, (fun c h => by cases h), (fun c h => h), fun y hy => .inl hy⟩ ?_
  rintro - h2 ⟨rest, cur, rfl, I2, f2, hcur, hrest, hall⟩
  rw [I2.left]
  unfold flowtable_Table_least_l1
  refine next_mk I2 (fun hn => ⟨fun _ => ?_, fun h => absurd rfl h⟩) fun a' x b' h3 hab hx f3 s3 I3 C3 => ⟨fun h => by simp at h, fun _ => ⟨_, _, rfl, ?_⟩⟩
  · have hn : rest = [] := by simpa using hn
    subst hn
    obtain ⟨e0, he0⟩ := List.exists_mem_of_ne_nil _ hS
    obtain ⟨y0, hy0, _⟩ := R.mem.1 he0
    obtain ⟨c, hc, _⟩ : ∃ c, cur = some c ∧ befE y0.ent c.ent = false := by rcases hall y0 hy0 with h | h; cases h; exact h
    subst hc
    refine hk c (hcur c rfl) ⟨R.mem.2 ⟨c, hcur c rfl, rfl⟩, fun y hy => ?_⟩ h2 f2
    obtain ⟨d, hd, rfl⟩ := R.mem.1 hy
    rcases hall d hd with h | ⟨c', hc', hb⟩
    · cases h
    · cases hc'; exact hb
  · obtain ⟨ra, rb', er, ea, eb⟩ := List.map_eq_append_iff.1 hab
    obtain ⟨cx, rb, erb, ecx, eb2⟩ := List.map_eq_cons_iff.1 eb
    subst er erb ecx ea eb2
    have hcx : cx ∈ S := hrest cx (by simp)
    refine entry_mk C3 ⟨_, _, rfl, ?_⟩
    refine dI_intro (n := cx.id) rfl (dP_intro (b := some cx.p) rfl ?_)
    have f23 : Fr (fun _ => False) h h3 := f2.tr f3 fun b hb hi => by omega
    have R3 := R.fr0 f23
    have ct := R3.own.cells
    rw [← List.map_append] at I3
    have lI : (List.map (fun c : PE => (c.id, Value.pointer (some c.p))) (ra ++ cx :: rb)).length = (ra ++ rb).length + 1 := by simp; omega
    rw [lI]
    have keep : (∃ c, cur = some c ∧ befE cx.ent c.ent = false) → (∃ (rest : List PE) (cur' : Option PE), (cur.map (·.id)).getD 0 = (cur'.map (·.id)).getD 0 ∧ IterI (intE .i64) h3 it r1 (S.map fun c => (c.id, Value.pointer (some c.p))) (rest.map fun c => (c.id, Value.pointer (some c.p))) ∧ Fr (fun _ => False) h h3 ∧ (∀ c, cur' = some c → c ∈ S) ∧ (∀ c ∈ rest, c ∈ S) ∧ ∀ y ∈ S, y ∈ rest ∨ ∃ c, cur' = some c ∧ befE y.ent c.ent = false) ∧ leftN h3 it r1 < (ra ++ rb).length + 1 := by
      intro hb
      refine ⟨⟨ra ++ rb, cur, rfl, I3, f23, hcur, fun c hc => hrest c (by rcases List.mem_append.1 hc with h | h <;> simp [h]), fun y hy => ?_⟩, by rw [I3.left]; simp⟩
      rcases hall y hy with h | h
      · rcases List.mem_append.1 h with h | h
        · exact .inl (List.mem_append_left _ h)
        · rcases List.mem_cons.1 h with rfl | h
          · exact .inr hb
          · exact .inl (List.mem_append_right _ h)
      · exact .inr h
    have done : (∀ c, cur = some c → befE c.ent cx.ent = false) → (∃ (rest : List PE) (cur' : Option PE), cx.id = (cur'.map (·.id)).getD 0 ∧ IterI (intE .i64) h3 it r1 (S.map fun c => (c.id, Value.pointer (some c.p))) (rest.map fun c => (c.id, Value.pointer (some c.p))) ∧ Fr (fun _ => False) h h3 ∧ (∀ c, cur' = some c → c ∈ S) ∧ (∀ c ∈ rest, c ∈ S) ∧ ∀ y ∈ S, y ∈ rest ∨ ∃ c, cur' = some c ∧ befE y.ent c.ent = false) ∧ leftN h3 it r1 < (ra ++ rb).length + 1 := by
      intro hb
      refine ⟨⟨ra ++ rb, some cx, rfl, I3, f23, fun c h => by cases h; exact hcx, fun c hc => hrest c (by rcases List.mem_append.1 hc with h | h <;> simp [h]), fun y hy => ?_⟩, by rw [I3.left]; simp⟩
      rcases hall y hy with h | ⟨c, hc, hbc⟩
      · rcases List.mem_append.1 h with h | h
        · exact .inl (List.mem_append_left _ h)
        · rcases List.mem_cons.1 h with rfl | h
          · refine .inr ⟨_, rfl, ?_⟩
            unfold befE; rw [decide_eq_false_iff_not]; omega
          · exact .inl (List.mem_append_right _ h)
      · refine .inr ⟨cx, rfl, ?_⟩
        have h1 := hb c hc
        unfold befE at *
        rw [decide_eq_false_iff_not] at *
        omega
    repeat (first | (first | refine ldI_mk (by first | exact ct.at rfl | exact ct.at0 rfl) ?_ | refine ldB_mk (by first | exact ct.at rfl | exact ct.at0 rfl) ?_ | refine ldL_mk (by first | exact ct.at rfl | exact ct.at0 rfl) ?_ | refine ldP_mk (by first | exact ct.at rfl | exact ct.at0 rfl) ?_ | refine ldS_mk (by first | exact ct.at rfl | exact ct.at0 rfl) ?_ | refine ldM_mk (by first | exact ct.at rfl | exact ct.at0 rfl) ?_) | refine nn_mk ?_ | refine And.intro (by (repeat (first | refine ldI_mk (by first | exact ct.at rfl | exact ct.at0 rfl) ?_ | refine ldB_mk (by first | exact ct.at rfl | exact ct.at0 rfl) ?_ | refine ldL_mk (by first | exact ct.at rfl | exact ct.at0 rfl) ?_ | refine ldP_mk (by first | exact ct.at rfl | exact ct.at0 rfl) ?_ | refine ldS_mk (by first | exact ct.at rfl | exact ct.at0 rfl) ?_ | refine ldM_mk (by first | exact ct.at rfl | exact ct.at0 rfl) ?_)); exact rfl) ?_ | refine ifNS ?_ | refine And.intro (by decide) ?_)
    cases hcu : cur with
    | none =>
      refine look1 R3 0 (fun _ => ⟨_, rfl, ifNN ?_⟩) fun c hc h0 => absurd (hid c hc) (by omega)
      exact done fun c h => by rw [hcu] at h; cases h
    | some c =>
      have hcS := hcur c hcu
      show lookV Try.prog T_map_int_p_flowtable_flow (.map (some r1)) (.int .i64 c.id) false h3 _
      refine look_mk idT Try.underlying56 zeroP R3.m1 c.id false ?_
      rw [R3.get hcS]
      refine ⟨_, rfl, ifNS ?_⟩
      have cc : Cells h3 c.p c.vals := (R3.cts c hcS).cells
      have cy : Cells h3 cx.p cx.vals := (R3.cts cx hcx).cells
      have keep := fun hb => keep ⟨c, hcu, hb⟩
      have done := fun hb => done fun c' h => by rw [hcu] at h; cases h; exact hb
      rw [hcu] at keep
      repeat (first | (first | refine ldI_mk (by first | exact cc.at rfl | exact cc.at0 rfl | exact cy.at rfl | exact cy.at0 rfl) ?_ | refine ldB_mk (by first | exact cc.at rfl | exact cc.at0 rfl | exact cy.at rfl | exact cy.at0 rfl) ?_ | refine ldL_mk (by first | exact cc.at rfl | exact cc.at0 rfl | exact cy.at rfl | exact cy.at0 rfl) ?_ | refine ldP_mk (by first | exact cc.at rfl | exact cc.at0 rfl | exact cy.at rfl | exact cy.at0 rfl) ?_ | refine ldS_mk (by first | exact cc.at rfl | exact cc.at0 rfl | exact cy.at rfl | exact cy.at0 rfl) ?_ | refine ldM_mk (by first | exact cc.at rfl | exact cc.at0 rfl | exact cy.at rfl | exact cy.at0 rfl) ?_) | refine nn_mk ?_ | refine And.intro (by (repeat (first | refine ldI_mk (by first | exact cc.at rfl | exact cc.at0 rfl | exact cy.at rfl | exact cy.at0 rfl) ?_ | refine ldB_mk (by first | exact cc.at rfl | exact cc.at0 rfl | exact cy.at rfl | exact cy.at0 rfl) ?_ | refine ldL_mk (by first | exact cc.at rfl | exact cc.at0 rfl | exact cy.at rfl | exact cy.at0 rfl) ?_ | refine ldP_mk (by first | exact cc.at rfl | exact cc.at0 rfl | exact cy.at rfl | exact cy.at0 rfl) ?_ | refine ldS_mk (by first | exact cc.at rfl | exact cc.at0 rfl | exact cy.at rfl | exact cy.at0 rfl) ?_ | refine ldM_mk (by first | exact cc.at rfl | exact cc.at0 rfl | exact cy.at rfl | exact cy.at0 rfl) ?_)); exact rfl) ?_ | refine ifNS ?_ | refine And.intro (by decide) ?_)
      refine ifD (fun e => done (befE_f (by simp only [PE.ent]; omega))) fun e => ?_
      repeat (first | (first | refine ldI_mk (by first | exact cc.at rfl | exact cc.at0 rfl | exact cy.at rfl | exact cy.at0 rfl) ?_ | refine ldB_mk (by first | exact cc.at rfl | exact cc.at0 rfl | exact cy.at rfl | exact cy.at0 rfl) ?_ | refine ldL_mk (by first | exact cc.at rfl | exact cc.at0 rfl | exact cy.at rfl | exact cy.at0 rfl) ?_ | refine ldP_mk (by first | exact cc.at rfl | exact cc.at0 rfl | exact cy.at rfl | exact cy.at0 rfl) ?_ | refine ldS_mk (by first | exact cc.at rfl | exact cc.at0 rfl | exact cy.at rfl | exact cy.at0 rfl) ?_ | refine ldM_mk (by first | exact cc.at rfl | exact cc.at0 rfl | exact cy.at rfl | exact cy.at0 rfl) ?_) | refine nn_mk ?_ | refine And.intro (by (repeat (first | refine ldI_mk (by first | exact cc.at rfl | exact cc.at0 rfl | exact cy.at rfl | exact cy.at0 rfl) ?_ | refine ldB_mk (by first | exact cc.at rfl | exact cc.at0 rfl | exact cy.at rfl | exact cy.at0 rfl) ?_ | refine ldL_mk (by first | exact cc.at rfl | exact cc.at0 rfl | exact cy.at rfl | exact cy.at0 rfl) ?_ | refine ldP_mk (by first | exact cc.at rfl | exact cc.at0 rfl | exact cy.at rfl | exact cy.at0 rfl) ?_ | refine ldS_mk (by first | exact cc.at rfl | exact cc.at0 rfl | exact cy.at rfl | exact cy.at0 rfl) ?_ | refine ldM_mk (by first | exact cc.at rfl | exact cc.at0 rfl | exact cy.at rfl | exact cy.at0 rfl) ?_)); exact rfl) ?_ | refine ifNS ?_ | refine And.intro (by decide) ?_)
      refine ifE (fun e1 => ?_) fun e1 => keep (befE_f (by simp only [PE.ent]; omega))
      repeat (first | (first | refine ldI_mk (by first | exact cc.at rfl | exact cc.at0 rfl | exact cy.at rfl | exact cy.at0 rfl) ?_ | refine ldB_mk (by first | exact cc.at rfl | exact cc.at0 rfl | exact cy.at rfl | exact cy.at0 rfl) ?_ | refine ldL_mk (by first | exact cc.at rfl | exact cc.at0 rfl | exact cy.at rfl | exact cy.at0 rfl) ?_ | refine ldP_mk (by first | exact cc.at rfl | exact cc.at0 rfl | exact cy.at rfl | exact cy.at0 rfl) ?_ | refine ldS_mk (by first | exact cc.at rfl | exact cc.at0 rfl | exact cy.at rfl | exact cy.at0 rfl) ?_ | refine ldM_mk (by first | exact cc.at rfl | exact cc.at0 rfl | exact cy.at rfl | exact cy.at0 rfl) ?_) | refine nn_mk ?_ | refine And.intro (by (repeat (first | refine ldI_mk (by first | exact cc.at rfl | exact cc.at0 rfl | exact cy.at rfl | exact cy.at0 rfl) ?_ | refine ldB_mk (by first | exact cc.at rfl | exact cc.at0 rfl | exact cy.at rfl | exact cy.at0 rfl) ?_ | refine ldL_mk (by first | exact cc.at rfl | exact cc.at0 rfl | exact cy.at rfl | exact cy.at0 rfl) ?_ | refine ldP_mk (by first | exact cc.at rfl | exact cc.at0 rfl | exact cy.at rfl | exact cy.at0 rfl) ?_ | refine ldS_mk (by first | exact cc.at rfl | exact cc.at0 rfl | exact cy.at rfl | exact cy.at0 rfl) ?_ | refine ldM_mk (by first | exact cc.at rfl | exact cc.at0 rfl | exact cy.at rfl | exact cy.at0 rfl) ?_)); exact rfl) ?_ | refine ifNS ?_ | refine And.intro (by decide) ?_)
      refine ifD (fun e2 => done (befE_f (by simp only [PE.ent]; omega))) fun e2 => ?_
      repeat (first | (first | refine ldI_mk (by first | exact cc.at rfl | exact cc.at0 rfl | exact cy.at rfl | exact cy.at0 rfl) ?_ | refine ldB_mk (by first | exact cc.at rfl | exact cc.at0 rfl | exact cy.at rfl | exact cy.at0 rfl) ?_ | refine ldL_mk (by first | exact cc.at rfl | exact cc.at0 rfl | exact cy.at rfl | exact cy.at0 rfl) ?_ | refine ldP_mk (by first | exact cc.at rfl | exact cc.at0 rfl | exact cy.at rfl | exact cy.at0 rfl) ?_ | refine ldS_mk (by first | exact cc.at rfl | exact cc.at0 rfl | exact cy.at rfl | exact cy.at0 rfl) ?_ | refine ldM_mk (by first | exact cc.at rfl | exact cc.at0 rfl | exact cy.at rfl | exact cy.at0 rfl) ?_) | refine nn_mk ?_ | refine And.intro (by (repeat (first | refine ldI_mk (by first | exact cc.at rfl | exact cc.at0 rfl | exact cy.at rfl | exact cy.at0 rfl) ?_ | refine ldB_mk (by first | exact cc.at rfl | exact cc.at0 rfl | exact cy.at rfl | exact cy.at0 rfl) ?_ | refine ldL_mk (by first | exact cc.at rfl | exact cc.at0 rfl | exact cy.at rfl | exact cy.at0 rfl) ?_ | refine ldP_mk (by first | exact cc.at rfl | exact cc.at0 rfl | exact cy.at rfl | exact cy.at0 rfl) ?_ | refine ldS_mk (by first | exact cc.at rfl | exact cc.at0 rfl | exact cy.at rfl | exact cy.at0 rfl) ?_ | refine ldM_mk (by first | exact cc.at rfl | exact cc.at0 rfl | exact cy.at rfl | exact cy.at0 rfl) ?_)); exact rfl) ?_ | refine ifNS ?_ | refine And.intro (by decide) ?_)
      refine ifE (fun e3 => ?_) fun e3 => keep (befE_f (by simp only [PE.ent]; omega))
      exact ifD (fun e4 => by have e4 : cx.id < c.id := e4; exact done (befE_f (by simp only [PE.ent]; omega))) fun e4 => by have e4 : ¬ cx.id < c.id := e4; exact keep (befE_f (by simp only [PE.ent]; omega))
theorem drop_c [Gh] {ok : Nat → Prop} {h : Heap} {t : Addr} {r1 r2 : Nat} {st : St} {S : List PE} (R : TabF ok h t r1 r2 st S) {c : PE} (hc : c ∈ S) {Q : Value → Heap → Prop}
    (hk : ∀ h', Fr (fun b => b = r1 ∨ b = r2) h h' → TabF ok h' t r1 r2 { st with L := without st.L c.id } (S.filter fun d => decide (d.id ≠ c.id)) → Q (.tuple #[]) h') :
    CallT Try.prog fn_flowtable_Table_drop #[.pointer (some t), .int .i64 c.id] h Q := by
  apply flowtable_Table_drop_s
  unfold flowtable_Table_drop_v
  have ct := R.own.cells
  repeat (first | (first | refine ldI_mk (by first | exact ct.at rfl | exact ct.at0 rfl) ?_ | refine ldB_mk (by first | exact ct.at rfl | exact ct.at0 rfl) ?_ | refine ldL_mk (by first | exact ct.at rfl | exact ct.at0 rfl) ?_ | refine ldP_mk (by first | exact ct.at rfl | exact ct.at0 rfl) ?_ | refine ldS_mk (by first | exact ct.at rfl | exact ct.at0 rfl) ?_ | refine ldM_mk (by first | exact ct.at rfl | exact ct.at0 rfl) ?_) | refine nn_mk ?_ | refine And.intro (by (repeat (first | refine ldI_mk (by first | exact ct.at rfl | exact ct.at0 rfl) ?_ | refine ldB_mk (by first | exact ct.at rfl | exact ct.at0 rfl) ?_ | refine ldL_mk (by first | exact ct.at rfl | exact ct.at0 rfl) ?_ | refine ldP_mk (by first | exact ct.at rfl | exact ct.at0 rfl) ?_ | refine ldS_mk (by first | exact ct.at rfl | exact ct.at0 rfl) ?_ | refine ldM_mk (by first | exact ct.at rfl | exact ct.at0 rfl) ?_)); exact rfl) ?_ | refine ifNS ?_ | refine And.intro (by decide) ?_)
  refine look_mk idT Try.underlying56 zeroP R.m1 c.id false ?_
  rw [R.get hc]
  refine ⟨_, rfl, ?_⟩
  have cc : Cells h c.p c.vals := (R.cts c hc).cells
  repeat (first | (first | refine ldI_mk (by first | exact ct.at rfl | exact ct.at0 rfl | exact cc.at rfl | exact cc.at0 rfl) ?_ | refine ldB_mk (by first | exact ct.at rfl | exact ct.at0 rfl | exact cc.at rfl | exact cc.at0 rfl) ?_ | refine ldL_mk (by first | exact ct.at rfl | exact ct.at0 rfl | exact cc.at rfl | exact cc.at0 rfl) ?_ | refine ldP_mk (by first | exact ct.at rfl | exact ct.at0 rfl | exact cc.at rfl | exact cc.at0 rfl) ?_ | refine ldS_mk (by first | exact ct.at rfl | exact ct.at0 rfl | exact cc.at rfl | exact cc.at0 rfl) ?_ | refine ldM_mk (by first | exact ct.at rfl | exact ct.at0 rfl | exact cc.at rfl | exact cc.at0 rfl) ?_) | refine nn_mk ?_ | refine And.intro (by (repeat (first | refine ldI_mk (by first | exact ct.at rfl | exact ct.at0 rfl | exact cc.at rfl | exact cc.at0 rfl) ?_ | refine ldB_mk (by first | exact ct.at rfl | exact ct.at0 rfl | exact cc.at rfl | exact cc.at0 rfl) ?_ | refine ldL_mk (by first | exact ct.at rfl | exact ct.at0 rfl | exact cc.at rfl | exact cc.at0 rfl) ?_ | refine ldP_mk (by first | exact ct.at rfl | exact ct.at0 rfl | exact cc.at rfl | exact cc.at0 rfl) ?_ | refine ldS_mk (by first | exact ct.at rfl | exact ct.at0 rfl | exact cc.at rfl | exact cc.at0 rfl) ?_ | refine ldM_mk (by first | exact ct.at rfl | exact ct.at0 rfl | exact cc.at rfl | exact cc.at0 rfl) ?_)); exact rfl) ?_ | refine ifNS ?_ | refine And.intro (by decide) ?_)
  refine keyOf_c c.f fun h2 f2 => ⟨_, _, _, _, _, _, _, _, _, _, rfl, ?_⟩
  have R2 := R.fr0 f2
  have ct := R2.own.cells
  repeat (first | (first | refine ldI_mk (by first | exact ct.at rfl | exact ct.at0 rfl) ?_ | refine ldB_mk (by first | exact ct.at rfl | exact ct.at0 rfl) ?_ | refine ldL_mk (by first | exact ct.at rfl | exact ct.at0 rfl) ?_ | refine ldP_mk (by first | exact ct.at rfl | exact ct.at0 rfl) ?_ | refine ldS_mk (by first | exact ct.at rfl | exact ct.at0 rfl) ?_ | refine ldM_mk (by first | exact ct.at rfl | exact ct.at0 rfl) ?_) | refine nn_mk ?_ | refine And.intro (by (repeat (first | refine ldI_mk (by first | exact ct.at rfl | exact ct.at0 rfl) ?_ | refine ldB_mk (by first | exact ct.at rfl | exact ct.at0 rfl) ?_ | refine ldL_mk (by first | exact ct.at rfl | exact ct.at0 rfl) ?_ | refine ldP_mk (by first | exact ct.at rfl | exact ct.at0 rfl) ?_ | refine ldS_mk (by first | exact ct.at rfl | exact ct.at0 rfl) ?_ | refine ldM_mk (by first | exact ct.at rfl | exact ct.at0 rfl) ?_)); exact rfl) ?_ | refine ifNS ?_ | refine And.intro (by decide) ?_)
  refine del_mk pairT Try.underlying57 R2.m2 (pairL c.f) fun h3 f3 s3 I3 => ⟨rfl, ?_⟩
  have ct : Cells h3 t _ := (R2.own.fr f3 (fun h => R.tr.2 h.symm)).cells
  repeat (first | (first | refine ldI_mk (by first | exact ct.at rfl | exact ct.at0 rfl) ?_ | refine ldB_mk (by first | exact ct.at rfl | exact ct.at0 rfl) ?_ | refine ldL_mk (by first | exact ct.at rfl | exact ct.at0 rfl) ?_ | refine ldP_mk (by first | exact ct.at rfl | exact ct.at0 rfl) ?_ | refine ldS_mk (by first | exact ct.at rfl | exact ct.at0 rfl) ?_ | refine ldM_mk (by first | exact ct.at rfl | exact ct.at0 rfl) ?_) | refine nn_mk ?_ | refine And.intro (by (repeat (first | refine ldI_mk (by first | exact ct.at rfl | exact ct.at0 rfl) ?_ | refine ldB_mk (by first | exact ct.at rfl | exact ct.at0 rfl) ?_ | refine ldL_mk (by first | exact ct.at rfl | exact ct.at0 rfl) ?_ | refine ldP_mk (by first | exact ct.at rfl | exact ct.at0 rfl) ?_ | refine ldS_mk (by first | exact ct.at rfl | exact ct.at0 rfl) ?_ | refine ldM_mk (by first | exact ct.at rfl | exact ct.at0 rfl) ?_)); exact rfl) ?_ | refine ifNS ?_ | refine And.intro (by decide) ?_)
  refine del_mk idT Try.underlying56 (R2.m1.fr f3 R.r12) c.id fun h4 f4 s4 I4 => ⟨rfl, ?_⟩
  rw [del_map] at I3 I4
  have e2 : (S.filter fun d => decide (pairL d.f ≠ pairL c.f)) = S.filter fun d => decide (d.id ≠ c.id) := by
    apply List.filter_congr
    intro d hd
    congr 1
    apply propext
    have inj : ∀ {β : Type} (k : PE → β), (S.map k).Nodup → k d = k c → d = c := fun k nd hk => by
      obtain ⟨i, hi, rfl⟩ := List.getElem_of_mem hd
      obtain ⟨j, hj, rfl⟩ := List.getElem_of_mem hc
      have hij : i = j := (List.getElem_inj (h₀ := by simpa using hi) (h₁ := by simpa using hj) nd).1 (by simp only [List.getElem_map]; exact hk)
      subst hij; rfl
    exact not_congr ⟨fun h => by rw [inj (fun c => pairL c.f) R.pairs h], fun h => by rw [inj (·.id) R.ids h]⟩
  rw [e2] at I3
  have sub : ∀ d ∈ S.filter (fun d => decide (d.id ≠ c.id)), d ∈ S := fun d hd => (List.mem_filter.1 hd).1
  have f24 : Fr (fun b => b = r1 ∨ b = r2) h2 h4 := (f3.mono fun _ h => .inr h).trans (f4.mono fun _ h => .inl h)
  refine hk h4 ((f2.mono fun _ h => h.elim).trans f24) ⟨?_, I4, I3.fr f4 (fun h => R.r12 h.symm), fun d hd => ?_, R.r12, R.tr, R.okt, R.okr, fun d hd => R.cp d (sub d hd), R.nd.sublist (List.filter_sublist.map _), ?_⟩
  · exact R2.own.fr f24 fun h => by rcases h with h | h; exact R.tr.1 h.symm; exact R.tr.2 h.symm
  · exact (R2.cts d (sub d hd)).fr f24 fun h => by rcases h with h | h; exact (R.cp d (sub d hd)).2.1 h; exact (R.cp d (sub d hd)).2.2.1 h
  · have := R.perm.filter fun e => decide (e.id ≠ c.id)
    rw [List.filter_map] at this
    exact this
end Go.Proofs.Ytbmifkjdjekenaa
