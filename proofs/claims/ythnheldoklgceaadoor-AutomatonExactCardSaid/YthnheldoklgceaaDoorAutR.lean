/-
  The cursor's memory; spelt; keep.
-/
import Derived.Test.YthnheldoklgceaaDoorAutQ
namespace Go.Proofs.YthnheldoklgceaaDoor
set_option linter.unusedSimpArgs false
set_option linter.unusedVariables false
set_option maxRecDepth 20000
open Go
open Go.IntKind (wrap)
structure CurF (h : Heap) (c a : Addr) (now at' : Nat) (tl : Nm) (p : Option Addr) (cap : Nat) : Prop where
  own : Own h c [.pointer (some a), .int .u16 now, .int .i64 at', .slice p tl.length cap] T_automaton_Cursor
  row : Row 1 bV h p cap tl
  nc : ¬ InA p c.block
theorem CurF.fr {S : Nat → Prop} {h h' : Heap} {c a : Addr} {now at' : Nat} {tl : Nm} {p : Option Addr} {cap : Nat} (C : CurF h c a now at' tl p cap) (f : Fr S h h') (h1 : ¬ S c.block) (h2 : ∀ x, InA p x → ¬ S x) : CurF h' c a now at' tl p cap :=
  ⟨C.own.fr f h1, C.row.fr f h2, C.nc⟩
theorem CurF.fr0 {h h' : Heap} {c a : Addr} {now at' : Nat} {tl : Nm} {p : Option Addr} {cap : Nat} (f : Fr (fun _ => False) h h') (C : CurF h c a now at' tl p cap) : CurF h' c a now at' tl p cap := C.fr f id fun _ _ => id
def spB (L : List Pt) (tl : Nm) (j : Nat) : Bool := (L.getD j ⟨[], false⟩).nc || decide (tl.drop (tl.length - (L.getD j ⟨[], false⟩).t.length) = (L.getD j ⟨[], false⟩).t)
theorem getPt (L : List Pt) (j : Nat) (hj : j < L.length) : L.getD j ⟨[], false⟩ = L[j] := by rw [List.getD_eq_getElem?_getD, List.getElem?_eq_getElem hj]; rfl
/-- A row of bytes, from a place on. -/
theorem row_from {h : Heap} {p : Option Addr} {cap : Nat} {l : Nm} (R : Row 1 bV h p cap l) (k : Nat) {n : Int} (hn : n = k) (hk : k ≤ l.length) {K : Option Addr → Nat → Nat → Prop}
    (hK : ∀ p' c', (∀ ad, p' = some ad → Cells h ad (bytesV (l.drop k))) → (p' = none → l.drop k = []) → K p' (l.drop k).length c') : sliceSl 1 p l.length cap (some n) none none K := by
  subst hn
  unfold sliceSl
  refine ⟨by omega, by omega, ?_⟩
  rw [Int.toNat_natCast, ← List.length_drop]
  have hle := R.le
  have hb := R.own
  rw [bV_flat] at hb
  by_cases hc : cap = k
  · have e : l.drop k = [] := List.drop_eq_nil_of_le (by omega)
    rw [if_pos hc]
    exact hK _ _ (fun ad _ => by rw [e]; intro j hj; exact absurd hj (Nat.not_lt_zero _)) fun _ => e
  · rw [if_neg hc]
    cases p with
    | none => exact hK _ _ (fun ad he => by cases he) fun _ => by have := hb.1; simp [bytesV] at this; rw [this]; simp
    | some ad =>
      refine hK _ _ (fun ad' he => ?_) fun he => by cases he
      simp only [Option.map_some, Option.some.injEq, Nat.mul_one] at he
      subst he
      have := hb.cells.sub k
      unfold bytesV at this ⊢
      rw [← List.map_drop] at this; exact this
theorem spelt_c [Gh] {h : Heap} {c a : Addr} {sg : List St} {L : List Pt} {now at' : Nat} {tl : Nm} {p : Option Addr} {cap : Nat} (A : AutX h a sg L) (C : CurF h c a now at' tl p cap) (j : Nat) (hj : j < L.length) (hlen : L[j].t.length ≤ tl.length) (htl : tl.length ≤ 64) {Q : Value → Heap → Prop}
    (hk : ∀ h', Fr (fun _ => False) h h' → Q (.bool (spB L tl j)) h') : CallT Tryd.prog fn_automaton_Cursor_spelt #[.pointer (some c), .int .i64 j] h Q := by
  apply automaton_Cursor_spelt_s
  unfold automaton_Cursor_spelt_v
  obtain ⟨q, cq, pq, pc, ca, _, S⟩ := A.blk
  have cc := C.own.cells
  unfold spB at hk
  rw [getPt L j hj] at hk
  refine nn_mk (ldP_mk (cc.at0 rfl) (nn_mk (ldL_mk (ca.at rfl) (S.get j rfl hj fun ad ci => ?_))))
  rw [Int.toNat_natCast]
  refine ldS_mk (ci.at0 rfl) (ldB_mk (ci.at (j := 1) rfl) ?_)
  refine al_mk (vs := [.string (bs []), .bool false]) fun t5 h1 f1 e1 o1 => ?_
  refine stN_own o1 (ws := [.string (bs L[j].t), .bool L[j].nc]) (by rfl) (by rfl) fun h2 f2 s2 o2 => ?_
  have F2 : Fr (fun _ => False) h h2 := f1.tr f2 fun b hb hi => by omega
  have c2 := o2.cells
  refine ldB_mk (c2.at (j := 1) rfl) (ifB (fun e => ?_) fun e => ?_)
  · rw [e] at hk; exact hk h2 F2
  rw [e, Bool.false_or] at hk
  have cc2 := cc.fr0 F2
  refine nn_mk (ldL_mk (cc2.at rfl) (nn_mk (ldL_mk (cc2.at rfl) (ldS_mk (c2.at0 rfl) ?_))))
  rw [bs_size, wr (by omega) (by omega)]
  refine row_from (C.row.fr0 F2) (tl.length - L[j].t.length) (by omega) (by omega) fun p' c' h3 h4 => ?_
  refine ldS_mk (c2.at0 rfl) ?_
  refine conv_bytes Tryd.underlying62 Tryd.underlying9 Tryd.underlying5 rfl h3 h4 ⟨_, rfl, ldS_mk (c2.at0 rfl) rfl, ?_⟩
  refine Qeq (hk h2 F2) ?_
  congr 1
  show _ = ((bs (tl.drop (tl.length - L[j].t.length))).toList == (bs L[j].t).toList)
  rw [bs_toList, bs_toList]
  rw [Bool.eq_iff_iff, decide_eq_true_iff, beq_iff_eq]
theorem appN [Gh] {h : Heap} {p : Option Addr} {cap : Nat} {L : List Nat} (R : Row 1 inV h p cap L) {e : Nat} {b : Addr} {T : TypeId} (ob : Own h b (inV e) T) (hl : L.length ≤ 2 ^ 29) {K : Value → Heap → Prop}
    (hk : ∀ p' cap' h', Row 1 inV h' p' cap' (L ++ [e]) → Fr (InA p) h h' → (∀ b, InA p' b → InA p b ∨ h.size ≤ b) → K (.slice p' (L ++ [e]).length cap') h') :
    bltV Tryd.prog .append #[T_sl_int, T_sl_int] T_sl_int #[false, false] #[.slice p L.length cap, .slice (some b) 1 1] h K :=
  R.app el_int Tryd.underlying56 (by intro k e; cases e) (by kernel_rfl) (by decide +kernel) inV_len (fun _ => rfl) ob 1 hl hk
theorem keep_c [Gh] {h : Heap} {q : Option Addr} {cq : Nat} {l : List Nat} (R : Row 1 inV h q cq l) (hl : l.length ≤ 2 ^ 20) (F : Value) (P : Nat → Bool)
    (hF : ∀ h', Fr (fun _ => False) h h' → ∀ j ∈ l, ∀ Q : Value → Heap → Prop, (∀ h'', Fr (fun _ => False) h' h'' → Q (.bool (P j)) h'') → CallV Tryd.prog F #[.int .i64 j] h' Q) {Q : Value → Heap → Prop}
    (hk : ∀ r rc h', Fr (fun _ => False) h h' → Row 1 inV h' r rc (l.filter P) → (∀ x, InA r x → h.size ≤ x) → Q (.slice r (l.filter P).length rc) h') :
    CallT Tryd.prog fn_automaton_keep #[.slice q l.length cq, F] h Q := by
  apply automaton_keep_s
  unfold automaton_keep_v
  refine LoopV.go (fun n st h' => ∃ (i : Nat), st.2.2.2 = (i : Int) ∧ st.2.1 = ((l.take i).filter P).length ∧ i ≤ l.length ∧ n = l.length - i ∧ Fr (fun _ => False) h h' ∧ Row 1 inV h' st.1 st.2.2.1 ((l.take i).filter P) ∧ ∀ x, InA st.1 x → h.size ≤ x) l.length
    ⟨0, rfl, rfl, by omega, rfl, Fr.refl _ _, Row.nil, fun x hx => (notInA hx).elim⟩ ?_
  rintro n ⟨ra, rn, rc, t10⟩ h1 ⟨i, e1, e2, hi, rfl, f1, R1, hr⟩ Kn hK
  dsimp only at e1 e2 R1 hr
  subst e1 e2
  dsimp only
  unfold automaton_keep_l1
  have z1 := f1.size
  refine ifD (fun e => ?_) fun e => ?_
  · have hil : i < l.length := by omega
    have htk : (l.take (i + 1)).filter P = (l.take i).filter P ++ (if P l[i] = true then [l[i]] else []) := by
      rw [show l.take (i + 1) = l.take i ++ [l[i]] by rw [List.take_append_getElem], List.filter_append, List.filter_cons, List.filter_nil]
    have hfl : ((l.take i).filter P).length ≤ i := Nat.le_trans (List.length_filter_le ..) (by rw [List.length_take]; omega)
    refine (R.fr0 f1).idx inV_len (by decide) i rfl hil fun ad ci => ?_
    rw [Int.toNat_natCast]
    refine ldI_mk (ci.at0 rfl) (hF h1 f1 l[i] (List.getElem_mem hil) _ fun h2 f2 => ⟨_, rfl, ?_⟩)
    have f12 := f1.trans f2
    have z2 := f2.size
    rw [wr (by omega) (by omega)]
    refine ifB (fun e3 => ?_) fun e3 => ?_
    · rw [if_pos e3] at htk
      refine al_mk (vs := inV l[i]) fun t19 h3 f3 e3 o3 => ?_
      have z3 := f3.size
      refine appN ((R1.fr0 f2).fr0 f3) o3 (by omega) fun p' c' h4 R4 f4 hn4 => ⟨_, _, _, rfl, ?_⟩
      rw [← htk] at R4 ⊢
      refine hK (l.length - (i + 1)) _ _ (by omega) ⟨i + 1, rfl, rfl, hil, rfl, (f12.trans f3).tr f4 fun x hx hh => by have := hr x hh; omega, R4, fun x hx => ?_⟩
      rcases hn4 x hx with hh | hh
      · exact hr x hh
      · omega
    · rw [if_neg (by rw [e3]; decide), List.append_nil] at htk
      exact hK (l.length - (i + 1)) _ _ (by omega) ⟨i + 1, rfl, by dsimp only; rw [htk], hil, rfl, f12, by rw [htk]; exact R1.fr0 f2, hr⟩
  · have : i = l.length := by omega
    subst this
    rw [List.take_length] at R1 ⊢
    exact hk ra rc h1 f1 R1 hr
end Go.Proofs.YthnheldoklgceaaDoor
