/-
  Occurrences: Plain of both sides.
-/
import Derived.Test.YthnheldoklgceaaAutB
namespace Go.Proofs.Ythnheldoklgceaa
set_option linter.unusedSimpArgs false
set_option linter.unusedVariables false
set_option maxRecDepth 20000
open Go
open Go.IntKind (wrap)
structure Pt where
  t : Nm
  nc : Bool
def ptV (p : Pt) : List Value := [.string (bs p.t), .bool p.nc]
def PtOk (h : Heap) (q : Option Addr) (L : List Pt) : Prop := ∀ i (hi : i < L.length), ∃ ad, q = some ad ∧ Cells h (ad.add (i * 2)) (ptV L[i])
theorem PtOk.fr0 {h h' : Heap} {q : Option Addr} {L : List Pt} (f : Fr (fun _ => False) h h') (S : PtOk h q L) : PtOk h' q L := fun i hi => by
  obtain ⟨ad, h1, h2⟩ := S i hi; exact ⟨ad, h1, h2.fr0 f⟩
theorem PtOk.get {h : Heap} {q : Option Addr} {L : List Pt} (S : PtOk h q L) {n : Int} (i : Nat) (hn : n = i) (hi : i < L.length) {K : Addr → Prop} (hk : ∀ ad, Cells h (ad.add (i * 2)) [.string (bs L[i].t), .bool L[i].nc] → K ad) : idxA n L.length (nn q fun a => K a) := by
  obtain ⟨ad, rfl, c⟩ := S i hi
  exact idxA_mk i hn hi (nn_mk (hk ad c))
def endL (s : Nm) (k n : Nat) : Nm := (s.drop (n - k)).take k
/-- A pattern occurs with the end n. -/
def occB (p : Pt) (s : Nm) (n : Nat) : Bool :=
  decide (p.t ≠ []) && (decide (p.t.length ≤ n) && (if p.nc = true then decide (lowL (endL s p.t.length n) = lowL p.t) else decide (endL s p.t.length n = p.t)))
abbrev Hit := Nat × Nat
def hitV (x : Hit) : List Value := [.int .i64 x.1, .int .i64 x.2]
theorem hitV_len (x : Hit) : (hitV x).length = 2 := rfl
theorem el_hit : ElemT Try.prog T_sl_api_Hit T_api_Hit Try.t49 (.agg #[.int .i64 0, .int .i64 0]) :=
  ⟨Try.underlying39, by kernel_rfl, by kernel_rfl, by kernel_rfl, by decide +kernel⟩
theorem appHit [Gh] {h : Heap} {p : Option Addr} {cap : Nat} {L : List Hit} (R : Row 2 hitV h p cap L) {e : Hit} {b : Addr} {T : TypeId} (ob : Own h b (hitV e) T) (hl : L.length ≤ 2 ^ 29) {K : Value → Heap → Prop}
    (hk : ∀ p' cap' h', Row 2 hitV h' p' cap' (L ++ [e]) → Fr (InA p) h h' → (∀ b, InA p' b → InA p b ∨ h.size ≤ b) → K (.slice p' (L ++ [e]).length cap') h') :
    bltV Try.prog .append #[T_sl_api_Hit, T_sl_api_Hit] T_sl_api_Hit #[false, false] #[.slice p L.length cap, .slice (some b) 1 1] h K :=
  R.app el_hit Try.underlying39 (by intro k e; cases e) (by kernel_rfl) (by decide +kernel) hitV_len (fun _ => rfl) ob 1 hl hk
def hA (L : List Pt) (s : Nm) (n i : Nat) : List Hit := (List.range i).flatMap fun j => if occB (L.getD j ⟨[], false⟩) s n = true then [(j, n)] else []
theorem hA_step (L : List Pt) (s : Nm) (n i : Nat) : hA L s n (i + 1) = hA L s n i ++ (if occB (L.getD i ⟨[], false⟩) s n = true then [(i, n)] else []) := by
  unfold hA
  rw [List.range_succ, List.flatMap_append, List.flatMap_cons, List.flatMap_nil, List.append_nil]
theorem hA_succ (L : List Pt) (s : Nm) (n i : Nat) (hi : i < L.length) : hA L s n (i + 1) = hA L s n i ++ (if occB L[i] s n = true then [(i, n)] else []) := by
  have : L.getD i ⟨[], false⟩ = L[i] := by rw [List.getD_eq_getElem?_getD, List.getElem?_eq_getElem hi]; rfl
  rw [hA_step, this]
theorem hA_len (L : List Pt) (s : Nm) (n : Nat) : ∀ i, (hA L s n i).length ≤ i
  | 0 => Nat.le_refl _
  | i + 1 => by
    have ih := hA_len L s n i
    rw [hA_step, List.length_append]
    split
    · rw [List.length_singleton]; omega
    · rw [List.length_nil]; omega
def hAll (L : List Pt) (s : Nm) (fm k : Nat) : List Hit := (List.range k).flatMap fun m => hA L s (fm + 1 + m) L.length
theorem hAll_succ (L : List Pt) (s : Nm) (fm k : Nat) : hAll L s fm (k + 1) = hAll L s fm k ++ hA L s (fm + 1 + k) L.length := by
  unfold hAll
  rw [List.range_succ, List.flatMap_append]; simp
theorem hAll_len (L : List Pt) (s : Nm) (fm : Nat) : ∀ k, (hAll L s fm k).length ≤ k * L.length
  | 0 => by simp [hAll]
  | k + 1 => by
    have ih := hAll_len L s fm k
    have h2 := hA_len L s (fm + 1 + k) L.length
    rw [hAll_succ, List.length_append, Nat.succ_mul]; omega
theorem Occurs_c [Gh] (p : Pt) (s : Nm) (n : Nat) (hn : n ≤ s.length) (hs : s.length ≤ 2 ^ 20) (hp : p.t.length ≤ 2 ^ 20) {h : Heap} {Q : Value → Heap → Prop} (hk : ∀ h', Fr (fun _ => False) h h' → Q (.bool (occB p s n)) h') :
    CallT Try.prog fn_ref45_Occurs #[.agg #[.string (bs p.t), .bool p.nc], .string (bs s), .int .i64 n] h Q := by
  apply ref45_Occurs_s
  unfold ref45_Occurs_v
  refine al_mk (vs := ptV p) fun t3 h1 f1 e1 o1 => ?_
  have c : Cells h1 t3 [.string (bs p.t), .bool p.nc] := o1.cells
  unfold occB at hk
  refine ldS_mk (c.at0 rfl) (ldS_mk (c.at0 rfl) (ifS (m := []) (fun e => ?_) fun e => ?_))
  · have := hk h1 f1
    rw [decide_eq_false (fun h => h e)] at this; exact this
  rw [decide_eq_true e, Bool.true_and] at hk
  rw [bs_size, wr (by omega) (by omega)]
  refine ifD (fun e2 => ?_) fun e2 => ?_
  · have := hk h1 f1
    rw [decide_eq_false (by omega)] at this; exact this
  rw [decide_eq_true (by omega), Bool.true_and] at hk
  have hl : p.t.length ≤ n := by omega
  have he : (s.drop (n - p.t.length)).take (n - (n - p.t.length)) = endL s p.t.length n := by unfold endL; rw [show n - (n - p.t.length) = p.t.length by omega]
  have hel : (endL s p.t.length n).length ≤ 2 ^ 20 := by unfold endL; rw [List.length_take]; omega
  refine ldB_mk (c.at (j := 1) rfl) (ifB (fun e3 => ?_) fun e3 => ?_)
  · rw [if_pos e3] at hk
    refine slS s (n - p.t.length) n (by omega) rfl (by omega) hn ?_
    rw [he]
    refine ldS_mk (c.at0 rfl) (rsmall_c _ (by omega) fun h2 f2 => ⟨_, rfl, ?_⟩)
    have c2 := c.fr0 f2
    refine ⟨ldS_mk (c2.at0 rfl) rfl, rsmall_c _ (by omega) fun h3 f3 => ⟨_, rfl, ?_⟩⟩
    refine Qeq (hk h3 ((f1.trans f2).trans f3)) ?_
    rw [bs_toList, bs_toList]
    congr 1
    rw [Bool.eq_iff_iff, decide_eq_true_iff, beq_iff_eq]
  · rw [if_neg (by rw [e3]; decide)] at hk
    refine slS s (n - p.t.length) n (by omega) rfl (by omega) hn ?_
    rw [he]
    refine ldS_mk (c.at0 rfl) (Qeq (hk h1 f1) ?_)
    rw [bs_toList, bs_toList]
    congr 1
    rw [Bool.eq_iff_iff, decide_eq_true_iff, beq_iff_eq]
theorem after_c [Gh] {q : Option Addr} {cap : Nat} {L : List Pt} (hL : L.length ≤ 1000) (hpl : ∀ p ∈ L, p.t.length ≤ 2 ^ 20) (s : Nm) (hs : s.length ≤ 10000) (fm : Nat) (hf : fm ≤ s.length) {h : Heap} (S : PtOk h q L) {Q : Value → Heap → Prop}
    (hk : ∀ p k h', Fr (fun _ => False) h h' → Row 2 hitV h' p k (hAll L s fm (s.length - fm)) → (∀ x, InA p x → h.size ≤ x) → Q (.slice p (hAll L s fm (s.length - fm)).length k) h') :
    CallT Try.prog fn_ref45_after #[.slice q L.length cap, .string (bs s), .int .i64 fm] h Q := by
  apply ref45_after_s
  unfold ref45_after_v
  refine al_mk (vs := []) fun t10 h1 f1 e1 o1 => ?_
  have z1 := f1.size
  have R0 : Row 2 hitV h1 (some t10) 0 [] := Row.of_own (L := []) hitV_len o1
  rw [wr (by omega) (by omega)]
  have hcap : ∀ k, k ≤ s.length → (hAll L s fm k).length ≤ 10000 * 1000 := fun k hk => Nat.le_trans (hAll_len L s fm k) (Nat.mul_le_mul (by omega) hL)
  refine LoopV.go (fun m st h' => ∃ k : Nat, st.2.2.2 = ((fm + 1 + k : Nat) : Int) ∧ st.2.1 = (hAll L s fm k).length ∧ k ≤ s.length - fm ∧ m = s.length - fm - k ∧ Fr (fun _ => False) h h' ∧ Row 2 hitV h' st.1 st.2.2.1 (hAll L s fm k) ∧ ∀ x, InA st.1 x → h.size ≤ x) (s.length - fm)
    ⟨0, by dsimp only; omega, rfl, by omega, rfl, f1, R0, fun x hx => by obtain ⟨a, h1, h2⟩ := hx; cases h1; omega⟩ ?_
  rintro m ⟨p, n1, c1, t⟩ h2 ⟨k, ht, hn1, hk1, rfl, f2, R2, hp⟩ Kn1 hK1
  have ht : t = ((fm + 1 + k : Nat) : Int) := ht
  have hn1 : n1 = (hAll L s fm k).length := hn1
  have R2 : Row 2 hitV h2 p c1 (hAll L s fm k) := R2
  have hp : ∀ x, InA p x → h.size ≤ x := hp
  subst ht hn1
  dsimp only
  unfold ref45_after_l1
  rw [bs_size]
  have hck := hcap k (by omega)
  refine ifD (fun e => ?_) fun e => ?_
  · have hlt : k < s.length - fm := by omega
    refine LoopV.go (fun m st h' => ∃ i : Nat, st.2.2.2 = (i : Int) ∧ st.2.1 = (hAll L s fm k ++ hA L s (fm + 1 + k) i).length ∧ i ≤ L.length ∧ m = L.length - i ∧ Fr (fun _ => False) h h' ∧ Row 2 hitV h' st.1 st.2.2.1 (hAll L s fm k ++ hA L s (fm + 1 + k) i) ∧ ∀ x, InA st.1 x → h.size ≤ x) L.length
      ⟨0, rfl, by simp [hA], by omega, rfl, f2, by simpa [hA] using R2, hp⟩ ?_
    rintro m ⟨p, n1, c1, t⟩ h3 ⟨i, ht, hn1, hi, rfl, f3, R3, hp⟩ Kn2 hK2
    have ht : t = (i : Int) := ht
    have hn1 : n1 = (hAll L s fm k ++ hA L s (fm + 1 + k) i).length := hn1
    have R3 : Row 2 hitV h3 p c1 (hAll L s fm k ++ hA L s (fm + 1 + k) i) := R3
    have hp : ∀ x, InA p x → h.size ≤ x := hp
    subst ht hn1
    dsimp only
    unfold ref45_after_l2
    have z3 := f3.size
    have hai := hA_len L s (fm + 1 + k) i
    refine ifD (fun e2 => ?_) fun e2 => ?_
    · have hil : i < L.length := by omega
      have hsu := hA_succ L s (fm + 1 + k) i hil
      refine (PtOk.fr0 f3 S).get i rfl hil fun ad ci => ?_
      rw [Int.toNat_natCast]
      refine ldS_mk (ci.at0 rfl) (ldB_mk (ci.at (j := 1) rfl) ?_)
      refine Occurs_c L[i] s (fm + 1 + k) (by omega) (by omega) (hpl _ (List.getElem_mem hil)) fun h4 f4 => ⟨_, rfl, ?_⟩
      have f34 := f3.trans f4
      rw [wr (by omega) (by omega)]
      refine ifB (fun e3 => ?_) fun e3 => ?_
      · rw [if_pos e3, ] at hsu
        refine al_mk (vs := hitV (i, fm + 1 + k)) fun t36 h5 f5 e5 o5 => ?_
        have z5 := f5.size
        have z4 := f4.size
        refine appHit ((R3.fr0 f4).fr0 f5) o5 (by rw [List.length_append]; omega) fun p' c' h6 R6 f6 hn6 => ⟨_, _, _, rfl, ?_⟩
        rw [List.append_assoc, ← hsu] at R6 ⊢
        refine hK2 (L.length - (i + 1)) _ _ (by omega) ⟨i + 1, rfl, rfl, hil, rfl, (f34.trans f5).tr f6 fun x hx hh => by have := hp x hh; omega, R6, fun x hx => ?_⟩
        rcases hn6 x hx with hh | hh
        · exact hp x hh
        · omega
      · rw [if_neg (by rw [e3]; decide), List.append_nil] at hsu
        exact hK2 (L.length - (i + 1)) _ _ (by omega) ⟨i + 1, rfl, by dsimp only; rw [hsu], hil, rfl, f34, by rw [hsu]; exact R3.fr0 f4, hp⟩
    · have : i = L.length := by omega
      subst this
      rw [← hAll_succ] at R3 ⊢
      rw [wr (by omega) (by omega)]
      exact hK1 (s.length - fm - (k + 1)) _ _ (by omega) ⟨k + 1, by dsimp only; omega, rfl, hlt, rfl, f3, R3, hp⟩
  · have : k = s.length - fm := by omega
    subst this
    exact hk p c1 h2 f2 R2 hp
theorem same_c [Gh] {h : Heap} {a b : Option Addr} {ca cb : Nat} {L : List Hit} (R : Row 2 hitV h a ca L) (R2 : Row 2 hitV h b cb L) (hl : L.length ≤ 2 ^ 60) {Q : Value → Heap → Prop} (hk : Q (.bool true) h) :
    CallT Try.prog fn_law45_same #[.slice a L.length ca, .slice b L.length cb] h Q := by
  apply law45_same_s
  unfold law45_same_v
  rw [if_neg (by simp)]
  refine LoopV.go (fun n s h' => ∃ i : Nat, s = (i : Int) ∧ i ≤ L.length ∧ n = L.length - i ∧ h' = h) L.length ⟨0, rfl, by omega, rfl, rfl⟩ ?_
  rintro n - h1 ⟨i, rfl, hi, rfl, rfl⟩ Kn hK
  unfold law45_same_l1
  refine ifD (fun e => ?_) fun e => hk
  have hlt : i < L.length := by omega
  refine R.idx hitV_len (by omega) i rfl hlt fun ad ci => ?_
  have ci : Cells h1 (ad.add (i * 2)) [.int .i64 L[i].1, .int .i64 L[i].2] := ci
  rw [Int.toNat_natCast]
  refine ldI_mk (ci.at0 rfl) (ldI_mk (ci.at (j := 1) rfl) ?_)
  refine R2.idx hitV_len (by omega) i rfl hlt fun ad2 ci => ?_
  have ci : Cells h1 (ad2.add (i * 2)) [.int .i64 L[i].1, .int .i64 L[i].2] := ci
  refine ldI_mk (ci.at0 rfl) (ldI_mk (ci.at (j := 1) rfl) ?_)
  rw [if_neg (by simp), wr (by omega) (by omega)]
  exact hK (L.length - (i + 1)) _ _ (by omega) ⟨i + 1, rfl, hlt, rfl, rfl⟩
end Go.Proofs.Ythnheldoklgceaa
