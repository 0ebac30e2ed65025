/-
  Plain of the program; large.
-/
import Derived.Test.YtjelnknmjhceiaaAutC
namespace Go.Proofs.Ytjelnknmjhceiaa.Au
set_option linter.unusedSimpArgs false
set_option linter.unusedVariables false
set_option maxRecDepth 20000
open Go
open Go.IntKind (wrap)
theorem HasSuffix_c [Gh] (a b : Nm) (ha : a.length ≤ 2 ^ 40) {h : Heap} {Q : Value → Heap → Prop} (hk : Q (.bool (decide (b.length ≤ a.length) && decide (a.drop (a.length - b.length) = b))) h) : CallT Try.prog fn_strings_HasSuffix #[.string (bs a), .string (bs b)] h Q := by
  apply strings_HasSuffix_s
  unfold strings_HasSuffix_v
  apply internal_stringslite_HasSuffix_s
  unfold internal_stringslite_HasSuffix_v
  rw [bs_size, bs_size]
  refine ifD (fun e => ?_) fun e => ?_
  · rw [decide_eq_true (by omega), Bool.true_and] at hk
    rw [wr (by omega) (by omega)]
    refine slF a (a.length - b.length) (by omega) (by omega) ⟨_, rfl, ?_⟩
    refine Qeq hk ?_
    rw [bs_toList, bs_toList]
    congr 1
    rw [Bool.eq_iff_iff, decide_eq_true_iff, beq_iff_eq]
  · rw [decide_eq_false (by omega)] at hk
    exact ⟨_, rfl, hk⟩
theorem end_take (s : Nm) (k n : Nat) (h1 : k ≤ n) (h2 : n ≤ s.length) : (s.take n).drop ((s.take n).length - k) = endL s k n := by
  unfold endL
  rw [List.length_take, Nat.min_eq_left h2, List.drop_take]
  congr 1; omega
theorem endL_low (s : Nm) (k n : Nat) : endL (lowL s) k n = lowL (endL s k n) := by
  unfold endL lowL; rw [List.map_take, List.map_drop]
theorem lowL_take (s : Nm) (n : Nat) : (lowL s).take n = lowL (s.take n) := by unfold lowL; rw [List.map_take]
theorem Plain_c [Gh] {q : Option Addr} {cap : Nat} {L : List Pt} (hL : L.length ≤ 1000) (hpl : ∀ p ∈ L, p.t.length ≤ 2 ^ 20) (s : Nm) (hs : s.length ≤ 10000) {h : Heap} (S : PtOk h q L) {Q : Value → Heap → Prop}
    (hk : ∀ p k h', Fr (fun _ => False) h h' → Row 2 hitV h' p k (hAll L s 0 s.length) → (∀ x, InA p x → h.size ≤ x) → Q (.slice p (hAll L s 0 s.length).length k) h') :
    CallT Try.prog fn_automaton_Plain #[.slice q L.length cap, .string (bs s)] h Q := by
  apply automaton_Plain_s
  unfold automaton_Plain_v
  refine lower_c s (by omega) fun h1 f1 => ⟨_, rfl, ?_⟩
  have z1 := f1.size
  have hcap : ∀ k, k ≤ s.length → (hAll L s 0 k).length ≤ 10000 * 1000 := fun k hk => Nat.le_trans (hAll_len L s 0 k) (Nat.mul_le_mul (by omega) hL)
  refine LoopV.go (fun m st h' => ∃ k : Nat, st.2.2.2 = ((0 + 1 + k : Nat) : Int) ∧ st.2.1 = (hAll L s 0 k).length ∧ k ≤ s.length ∧ m = s.length - k ∧ Fr (fun _ => False) h h' ∧ Row 2 hitV h' st.1 st.2.2.1 (hAll L s 0 k) ∧ ∀ x, InA st.1 x → h.size ≤ x) s.length
    ⟨0, rfl, rfl, by omega, rfl, f1, Row.nil, fun x hx => (notInA hx).elim⟩ ?_
  rintro m ⟨p, n1, c1, t⟩ h2 ⟨k, ht, hn1, hk1, rfl, f2, R2, hp⟩ Kn1 hK1
  have ht : t = ((0 + 1 + k : Nat) : Int) := ht
  have hn1 : n1 = (hAll L s 0 k).length := hn1
  have R2 : Row 2 hitV h2 p c1 (hAll L s 0 k) := R2
  have hp : ∀ x, InA p x → h.size ≤ x := hp
  subst ht hn1
  dsimp only
  unfold automaton_Plain_l1
  rw [bs_size]
  have hck := hcap k hk1
  refine ifD (fun e => ?_) fun e => ?_
  · have hlt : k < s.length := by omega
    refine LoopV.go (fun m st h' => ∃ i : Nat, st.2.2.2 = (i : Int) ∧ st.2.1 = (hAll L s 0 k ++ hA L s (0 + 1 + k) i).length ∧ i ≤ L.length ∧ m = L.length - i ∧ Fr (fun _ => False) h h' ∧ Row 2 hitV h' st.1 st.2.2.1 (hAll L s 0 k ++ hA L s (0 + 1 + k) i) ∧ ∀ x, InA st.1 x → h.size ≤ x) L.length
      ⟨0, rfl, by simp [hA], by omega, rfl, f2, by simpa [hA] using R2, hp⟩ ?_
    rintro m ⟨p, n1, c1, t⟩ h3 ⟨i, ht, hn1, hi, rfl, f3, R3, hp⟩ Kn2 hK2
    have ht : t = (i : Int) := ht
    have hn1 : n1 = (hAll L s 0 k ++ hA L s (0 + 1 + k) i).length := hn1
    have R3 : Row 2 hitV h3 p c1 (hAll L s 0 k ++ hA L s (0 + 1 + k) i) := R3
    have hp : ∀ x, InA p x → h.size ≤ x := hp
    subst ht hn1
    dsimp only
    unfold automaton_Plain_l2
    have z3 := f3.size
    have hai := hA_len L s (0 + 1 + k) i
    refine ifD (fun e2 => ?_) fun e2 => ?_
    · have hil : i < L.length := by omega
      have hsu := hA_succ L s (0 + 1 + k) i hil
      have hpi := hpl _ (List.getElem_mem hil)
      refine (PtOk.fr0 f3 S).get i rfl hil fun ad ci => ?_
      rw [Int.toNat_natCast]
      refine ldS_mk (ci.at0 rfl) (ldB_mk (ci.at (j := 1) rfl) ?_)
      refine al_mk (vs := [.string (bs []), .bool false]) fun t9 h4 f4 e4 o4 => ?_
      refine stN_own o4 (ws := [.string (bs L[i].t), .bool L[i].nc]) (by rfl) (by rfl) fun h5 f5 s5 o5 => ?_
      have F5 : Fr (fun _ => False) h3 h5 := f4.tr f5 fun b hb hi => by omega
      have c5 : Cells h5 t9 [.string (bs L[i].t), .bool L[i].nc] := o5.cells
      generalize L[i] = pt at *
      generalize hn : 0 + 1 + k = n at *
      have hns : n ≤ s.length := by omega
      -- what is found, and what then
      have next : ∀ {h6 : Heap}, Fr (fun _ => False) h5 h6 → ∀ (text pat : Nm), text.length ≤ 2 ^ 30 → ((decide (pat ≠ []) && (decide (pat.length ≤ text.length) && decide (text.drop (text.length - pat.length) = pat))) = occB pt s n) → automaton_Plain_b3 q L.length cap (bs s) p (hAll L s 0 k ++ hA L s n i).length c1 (bs (lowL s)) (n : Int) (i : Int) (bs text) (bs pat) q L.length cap ((L.length : Nat) : Int) (i : Int) Q Kn1 Kn2 h6 := fun {h6} f6 text pat htx hocc => by
        have F6 := F5.trans f6
        have skip : ∀ {h7 : Heap}, Fr (fun _ => False) h3 h7 → occB pt s n = false → Kn2 (p, (hAll L s 0 k ++ hA L s n i).length, c1, wrap .i64 ((i : Int) + 1)) h7 := fun {h7} f7 hf => by
          rw [hf, if_neg (by decide), List.append_nil] at hsu
          rw [wr (by omega) (by omega)]
          exact hK2 (L.length - (i + 1)) _ _ (by omega) ⟨i + 1, rfl, by dsimp only; rw [hsu], hil, rfl, f3.trans f7, by rw [hsu]; exact R3.fr0 f7, hp⟩
        unfold automaton_Plain_b3
        refine ifSn (m := []) (fun e => ?_) fun e => skip F6 (by rw [← hocc, decide_eq_false (fun h => h e)]; rfl)
        rw [decide_eq_true e, Bool.true_and] at hocc
        refine HasSuffix_c text pat (by omega) ⟨_, rfl, ?_⟩
        rw [hocc]
        refine ifB (fun e3 => ?_) fun e3 => skip F6 e3
        rw [if_pos e3] at hsu
        refine al_mk (vs := hitV (i, n)) fun t50 h7 f7 e7 o7 => ?_
        have z7 := f7.size
        have z6 := F6.size
        refine appHit ((R3.fr0 F6).fr0 f7) o7 (by rw [List.length_append]; omega) fun p' c' h8 R8 f8 hn8 => ⟨_, _, _, rfl, ?_⟩
        rw [List.append_assoc, ← hsu] at R8 ⊢
        rw [wr (by omega) (by omega)]
        refine hK2 (L.length - (i + 1)) _ _ (by omega) ⟨i + 1, rfl, rfl, hil, rfl, ((f3.trans F6).trans f7).tr f8 fun x hx hh => by have := hp x hh; omega, R8, fun x hx => ?_⟩
        rcases hn8 x hx with hh | hh
        · exact hp x hh
        · omega
      refine slT s n rfl hns (ldS_mk (c5.at0 rfl) (ldB_mk (c5.at (j := 1) rfl) (ifB (fun e3 => ?_) fun e3 => ?_)))
      · refine slT (lowL s) n rfl (by rw [lowL_len]; exact hns) ?_
        refine lower_c pt.t (by omega) fun h6 f6 => ⟨_, rfl, ?_⟩
        refine next f6 ((lowL s).take n) (lowL pt.t) (by rw [List.length_take, lowL_len]; omega) ?_
        have hle : ((lowL s).take n).length = n := by rw [List.length_take, lowL_len]; omega
        have hne : decide (lowL pt.t ≠ []) = decide (pt.t ≠ []) := by rw [decide_eq_decide]; unfold lowL; simp
        unfold occB
        rw [if_pos e3, hne, hle, lowL_len]
        by_cases hln : pt.t.length ≤ n
        · have := end_take (lowL s) pt.t.length n hln (by rw [lowL_len]; exact hns)
          rw [hle, endL_low] at this
          rw [this]
        · rw [decide_eq_false hln]; rfl
      · refine next (Fr.refl _ _) (s.take n) pt.t (by rw [List.length_take]; omega) ?_
        have hle : (s.take n).length = n := by rw [List.length_take]; omega
        unfold occB
        rw [if_neg (by rw [e3]; decide), hle]
        by_cases hln : pt.t.length ≤ n
        · have := end_take s pt.t.length n hln hns
          rw [hle] at this
          rw [this]
        · rw [decide_eq_false hln]; rfl
    · have : i = L.length := by omega
      subst this
      rw [← hAll_succ] at R3 ⊢
      rw [wr (by omega) (by omega)]
      exact hK1 (s.length - (k + 1)) _ _ (by omega) ⟨k + 1, by dsimp only; omega, rfl, hlt, rfl, f3, R3, hp⟩
  · have : k = s.length := by omega
    subst this
    exact hk p c1 h2 f2 R2 hp
end Go.Proofs.Ytjelnknmjhceiaa.Au
