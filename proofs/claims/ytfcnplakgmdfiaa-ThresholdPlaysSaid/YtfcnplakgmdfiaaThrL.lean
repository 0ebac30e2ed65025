/-
  The reference's Filter: its end.
-/
import Derived.Test.YtfcnplakgmdfiaaThrK
namespace Go.Proofs.Ytfcnplakgmdfiaa
set_option linter.unusedSimpArgs false
set_option linter.unusedVariables false
set_option maxRecDepth 20000
open Go
open Go.IntKind (wrap)
theorem RowT.appL [Gh] {h : Heap} {p : Option Addr} {cap : Nat} {L M : List Tri} (R : RowT h p cap L) {x : Value} (s : Src h 13 x M.length (M.flatMap triV)) (hl : L.length + M.length ≤ 2 ^ 20) {K : Value → Heap → Prop}
    (hk : ∀ p' cap' h', RowT h' p' cap' (L ++ M) → Fr (InA p) h h' → (∀ b, InA p' b → InA p b ∨ h.size ≤ b) → K (.slice p' (L ++ M).length cap') h') :
    bltV Try.prog .append #[T_sl_intrusionref51_Counter, T_sl_intrusionref51_Counter] T_sl_intrusionref51_Counter #[false, false] #[.slice p L.length cap, x] h K := by
  have es : (Try.t77).size = 13 := by kernel_rfl
  have eb : (Try.t77).bytes ≤ 200 := by decide +kernel
  refine append_own el_cnt Try.underlying62 (by intro k e; cases e) (m := M.length) (xs := M.flatMap triV) (by rw [es]; exact R.own) (by rw [flat13, es]) R.le (by rw [es]; exact s) (triV_cell M) ?_ ?_
  · have : (8 * (L.length + M.length) + 4000) * (Try.t77).bytes ≤ (8 * (L.length + M.length) + 4000) * 200 := Nat.mul_le_mul_left _ eb
    omega
  · intro p' c' h' o' hc' f hn
    have el : L.length + M.length = (L ++ M).length := by simp
    rw [el] at hc' ⊢
    rw [es] at o'
    refine hk p' c' h' ⟨?_, hc'⟩ f hn
    rw [List.flatMap_append]; exact o'
structure RefR (ok : Nat → Prop) (h : Heap) (x : Addr) (T : Int) (L : List Tri) : Prop where
  row : ∃ p cap, Own h x [.int .i64 T, .slice p L.length cap] T_intrusionref51_Table ∧ RowT h p cap L ∧ ∀ b, InA p b → b ≠ x.block ∧ ok b
  okx : ok x.block
theorem rf_b7 [Gh] {ok : Nat → Prop} {h : Heap} {x : Addr} {T : Int} {v1 : Value} (ox : Own h x [.int .i64 T, v1] T_intrusionref51_Table) (okx : ok x.block) {p : Option Addr} {cap : Nat} {L : List Tri} (R : RowT h p cap L) (hp : ∀ b, InA p b → b ≠ x.block ∧ ok b)
    {t8 c11 : Addr} {th : Th} (o8 : Own h t8 th.vals T_api_Threshold) (h8 : t8.block ≠ x.block) {e : Tri} (oc : Own h c11 (triV e) T_intrusionref51_Counter) (hc : c11.block ≠ x.block) (hc1 : 1 ≤ th.count) {Q : Value → Heap → Prop}
    (hk : ∀ h', Fr (fun b => b = x.block) h h' → RefR ok h' x T L → Q (.bool (kindB th e.2.2)) h') : ref51_Table_Filter_b7 (some x) t8 c11 p L.length cap Q h := by
  unfold ref51_Table_Filter_b7
  refine nn_mk (st1_own ox 1 (by simp) rfl fun h1 f1 s1 o1 => ?_)
  have o8 := o8.fr f1 h8
  have oc := oc.fr f1 hc
  have hk := hk h1 f1 ⟨⟨p, cap, o1, R.fr f1 (fun b hb => (hp b hb).1), hp⟩, okx⟩
  unfold kindB at hk
  refine ldI_mk (o8.cells.at0 rfl) ?_
  refine ifE (fun e1 => ?_) fun e1 => ?_
  · rw [if_pos e1] at hk; exact ldI_mk (oc.cells.at rfl) (ldI_mk (o8.cells.at rfl) hk)
  rw [if_neg e1] at hk
  refine ldI_mk (o8.cells.at0 rfl) ?_
  refine ifE (fun e1 => ?_) fun e1 => ?_
  · rw [if_pos e1] at hk; exact ldI_mk (oc.cells.at rfl) (ldI_mk (o8.cells.at rfl) ⟨by omega, hk⟩)
  rw [if_neg e1] at hk
  exact ldI_mk (oc.cells.at rfl) (ldI_mk (o8.cells.at rfl) hk)
theorem RowT.part {h : Heap} {p : Option Addr} {cap : Nat} {L : List Tri} (R : RowT h p cap L) (hne : L ≠ []) : ∃ ad, p = some ad := by
  cases p with
  | none =>
    have := R.own.1
    cases L with
    | nil => exact absurd rfl hne
    | cons e L => simp [triV] at this
  | some ad => exact ⟨ad, rfl⟩
theorem RowT.sub {h : Heap} {ad : Addr} {cap : Nat} {L : List Tri} (R : RowT h (some ad) cap L) (k : Nat) : Cells h (ad.add (k * 13)) ((L.drop k).flatMap triV) := by
  have e0 : (L.flatMap triV).drop (k * 13) = (L.drop k).flatMap triV := by
    have hL : L.flatMap triV = (L.take k).flatMap triV ++ (L.drop k).flatMap triV := by rw [← List.flatMap_append, List.take_append_drop]
    by_cases hk : k ≤ L.length
    · rw [hL, List.drop_append_of_le_length (by rw [flat13, List.length_take]; omega)]
      rw [List.drop_eq_nil_of_le (by rw [flat13, List.length_take]; omega), List.nil_append]
    · rw [List.drop_eq_nil_of_le (by rw [flat13]; omega), List.drop_eq_nil_of_le (by omega)]; rfl
  intro j hj
  have e : (ad.add (k * 13)).add j = ad.add (k * 13 + j) := by
    have h1 := R.own.1
    have h2 := R.own.2.1
    obtain ⟨b, o, s⟩ := ad
    simp only at h1 h2
    subst h1 h2
    rw [add_mk, add_mk, add_mk, Nat.add_assoc]
  rw [e]
  refine R.own.cells.at ?_
  rw [← List.getElem?_drop, e0, List.getElem?_eq_getElem hj]
theorem RowT.pre {h : Heap} {ad : Addr} {cap : Nat} {L : List Tri} (R : RowT h (some ad) cap L) (k : Nat) : Cells h ad ((L.take k).flatMap triV) := by
  intro j hj
  refine R.own.cells.at ?_
  have hL : L.flatMap triV = (L.take k).flatMap triV ++ (L.drop k).flatMap triV := by rw [← List.flatMap_append, List.take_append_drop]
  rw [hL, List.getElem?_append_left hj, List.getElem?_eq_getElem hj]
theorem rf_b6 [Gh] {ok : Nat → Prop} {h : Heap} {x : Addr} {T : Int} {v1 : Value} (ox : Own h x [.int .i64 T, v1] T_intrusionref51_Table) (okx : ok x.block) (hok : ∀ b, h.size ≤ b → ok b) {p : Option Addr} {cap : Nat} {L : List Tri} (R : RowT h p cap L)
    {t8 c11 : Addr} {th : Th} (o8 : Own h t8 th.vals T_api_Threshold) (h8 : t8.block ≠ x.block) {e : Tri} (oc : Own h c11 (triV e) T_intrusionref51_Counter) (hc : c11.block ≠ x.block) (hc1 : 1 ≤ th.count) (hl : L.length ≤ 2 ^ 19) (k : Nat) (hkl : k < L.length) {Q : Value → Heap → Prop}
    (hk : ∀ h', Fr (fun b => b = x.block) h h' → RefR ok h' x T (L.take k ++ L.drop (k + 1)) → Q (.bool (kindB th e.2.2)) h') : ref51_Table_Filter_b6 (some x) t8 c11 p L.length cap k Q h := by
  unfold ref51_Table_Filter_b6
  obtain ⟨ad, rfl⟩ := R.part (fun h => by rw [h] at hkl; simp at hkl)
  have hle := R.le
  have lx := ox.lt
  refine ⟨by omega, by omega, ?_⟩
  rw [Int.toNat_natCast, wr (by omega) (by omega)]
  have R0 : RowT h none 0 ([] : List Tri) := ⟨⟨rfl, rfl⟩, Nat.le_refl _⟩
  have lt : (L.take k).length = k := by rw [List.length_take]; omega
  have s1 : Src h 13 (.slice (some ad) k cap) (L.take k).length ((L.take k).flatMap triV) := by
    have := Src.sl (h := h) (sz := 13) ad (L.take k).length cap _ (by rw [flat13]) (R.pre k)
    rw [lt] at this ⊢
    exact this
  refine R0.appL s1 (by simp; omega) fun p1 c1 h1 R1 f1 n1 => ⟨_, _, _, rfl, ?_⟩
  rw [List.nil_append] at R1 ⊢
  have f1' : Fr (fun _ => False) h h1 := f1.mono fun b hb => (notInA hb).elim
  have p1new : ∀ b, InA p1 b → h.size ≤ b := fun b hb => by
    rcases n1 b hb with h | h
    · exact (notInA h).elim
    · exact h
  have Rh1 := R.fr f1' (fun _ _ => id)
  refine ⟨by omega, by omega, ?_⟩
  have ek : ((k : Int) + 1).toNat = k + 1 := by omega
  rw [ek]
  have ld : (L.drop (k + 1)).length = L.length - (k + 1) := List.length_drop
  have s2 : Src h1 13 (.slice (if cap = k + 1 then some ad else (some ad).map (·.add ((k + 1) * 13))) (L.length - (k + 1)) (cap - (k + 1))) (L.drop (k + 1)).length ((L.drop (k + 1)).flatMap triV) := by
    rw [ld]
    split
    · rename_i e1
      have : L.drop (k + 1) = [] := List.drop_eq_nil_of_le (by omega)
      rw [this]
      have e0 : L.length - (k + 1) = 0 := by omega
      rw [e0]
      exact .sl _ _ _ _ rfl (fun j hj => by simp at hj)
    · refine .sl _ _ _ _ (by rw [flat13, ld]) (Rh1.sub (k + 1))
  refine R1.appL s2 (by rw [lt, ld]; omega) fun p2 c2 h2 R2 f2 n2 => ⟨_, _, _, rfl, ?_⟩
  have z1 := f1.size
  have f12 : Fr (fun _ => False) h h2 := f1'.tr f2 fun b hb hi => by have := p1new b hi; omega
  refine rf_b7 (ox.fr0 f12) okx R2 (fun b hb => ?_) (o8.fr0 f12) h8 (oc.fr0 f12) hc hc1 fun h3 f3 R3 => hk h3 ((f12.mono fun _ h => h.elim).trans f3) R3
  rcases n2 b hb with h | h
  · have := p1new b h; exact ⟨by omega, hok b this⟩
  · exact ⟨by omega, hok b (by omega)⟩
end Go.Proofs.Ytfcnplakgmdfiaa
