/-
  The reference's step and Feed.
-/
import Derived.Test.YtjhcockaojlfiaaDoorChunkG
namespace Go.Proofs.YtjhcockaojlfiaaDoor
set_option linter.unusedSimpArgs false
set_option linter.unusedVariables false
set_option maxRecDepth 20000
open Go
open Go.IntKind (wrap)
theorem rstepC_c [Gh] {h : Heap} {x : Addr} {d : Dec} (o : OwnR h x d) (ok : d.ok) (h2 : d.st ≠ 2) (h5 : d.st ≠ 5) (c : UInt8) {Q : Value → Heap → Prop}
    (hk : ∀ h', Fr (fun b => b = x.block) h h' → h'.size = h.size → OwnA h' x → ((stepC d c.toNat).1 = 0 → OwnR h' x (stepC d c.toNat).2) → Q (.int .i64 (stepC d c.toNat).1) h') :
    ref27_Decoder_step_b1 (some x) c.toNat Q h := by
  unfold ref27_Decoder_step_b1
  have oa := o.any
  obtain ⟨size, ln, w, left, o, r1, r2, r3⟩ := o
  obtain ⟨st, len, sz, wd⟩ := d
  obtain ⟨ok1, ok2, ok3, ok4, ok5, ok6⟩ := ok
  simp only at *
  obtain ⟨rfl, rfl⟩ := r3 (by omega)
  unfold stepC at hk
  simp only at hk
  refine ifE (fun e => ?_) fun e => ?_
  · rw [if_pos (by omega)] at hk
    refine nn_mk (st1_own o 3 (by simp [rvals]) rfl fun h1 f1 s1 o1 => nn_mk (ldI_mk (o1.cells.at0 rfl) ?_))
    have o1 : OwnV h1 x st size ln true left := o1
    have good : ¬ (st = 0 ∧ ln = 0) → Q (.int .i64 0) h1 := fun hn => by
      rw [if_neg hn] at hk
      exact hk h1 f1 s1 ⟨_, _, _, _, _, o1⟩ fun _ => ⟨size, ln, true, left, o1, r1, r2, fun _ => ⟨rfl, rfl⟩⟩
    refine ifE (fun (e : (st : Int) = 0) => ?_) fun (e : (st : Int) ≠ 0) => good (by omega)
    refine nn_mk (ldI_mk (o1.cells.at rfl) ?_)
    refine ifE (fun (e : (ln : Int) = 0) => ?_) fun (e : (ln : Int) ≠ 0) => good (by omega)
    rw [if_pos (by omega)] at hk
    exact hk h1 f1 s1 ⟨_, _, _, _, _, o1⟩ (by simp)
  rw [if_neg (by omega)] at hk
  have count : ∀ (h1 : Heap) (st' size' sz' : Nat), OwnV h1 x st' size' ln w left → Fr (fun b => b = x.block) h h1 → h1.size = h.size → (st' ≤ 1 → size' = sz') → (st' = 2 → left = sz') →
      (∀ h', Fr (fun b => b = x.block) h h' → h'.size = h.size → OwnA h' x → ((cnt ⟨st', ln, sz', w⟩).1 = 0 → OwnR h' x (cnt ⟨st', ln, sz', w⟩).2) → Q (.int .i64 (cnt ⟨st', ln, sz', w⟩).1) h') →
      CallT Tryd.prog fn_ref27_Decoder_count #[.pointer (some x)] h1 fun v h' => ∃ t : Int, v = .int .i64 t ∧ Q (.int .i64 t) h' := by
    intro h1 st' size' sz' o1 f1 s1 e1 e2 hk
    refine rcount_c o1 ok1 fun h2 f2 s2 o2 => ⟨_, rfl, ?_⟩
    exact hk h2 (f1.trans f2) (by omega) ⟨_, _, _, _, _, o2⟩ fun _ => ⟨_, _, _, _, o2, e1, e2, fun _ => ⟨rfl, rfl⟩⟩
  refine free_c o ⟨_, rfl, ?_⟩
  refine ifD (fun hf => ?_) fun hf => ?_
  · rw [if_pos (by omega)] at hk
    exact count h st size sz o (Fr.refl _ _) rfl r1 r2 hk
  rw [if_neg (by omega)] at hk
  have b3t : Q (.int .i64 2) h → ref27_Decoder_step_b3 (some x) c.toNat true Q h := fun hq => by
    unfold ref27_Decoder_step_b3
    rw [if_pos rfl]; exact hq
  have b2 : (st = 0 → ¬ (c.toNat = 59 ∧ 0 < ln)) → ref27_Decoder_step_b2 (some x) c.toNat Q h := fun hz => by
    unfold ref27_Decoder_step_b2
    refine nn_mk (ldI_mk (o.cells.at0 rfl) ?_)
    have bad : (∀ n, hexN c.toNat = some n → ¬ (st = 0 ∧ ln < 7)) → (hexN c.toNat = none → st = 3 ∨ c.toNat ≠ 59 ∨ ln = 0) → Q (.int .i64 2) h := fun e1 e2 => by
      cases hx : hexN c.toNat with
      | some n => rw [hx] at hk; simp only at hk; rw [if_neg (e1 n hx)] at hk; exact hk h (Fr.refl _ _) rfl oa (by simp)
      | none => rw [hx] at hk; simp only at hk; rw [if_pos (e2 hx)] at hk; exact hk h (Fr.refl _ _) rfl oa (by simp)
    refine ifE (fun (e : (st : Int) = 3) => ?_) fun (e : (st : Int) ≠ 3) => ?_
    · exact b3t (bad (fun _ _ => by omega) fun _ => by omega)
    refine digit_c c ⟨_, rfl, ?_⟩
    cases hx : hexN c.toNat with
    | none =>
      have he : hexI c.toNat = -1 := by unfold hexI; rw [hx]
      rw [he, if_pos (by decide)]
      exact b3t (bad (fun _ h => by rw [hx] at h; cases h) fun _ => by omega)
    | some n =>
      have hn := hexN_lt hx
      have he : hexI c.toNat = n := by unfold hexI; rw [hx]
      rw [he, if_neg (by rw [decide_eq_true_eq]; omega)]
      refine nn_mk (ldI_mk (o.cells.at rfl) ?_)
      have e7 : ((ln : Int) == 7) = decide (ln = 7) := by rw [Bool.eq_iff_iff]; simp only [beq_iff_eq, decide_eq_true_eq]; omega
      show ref27_Decoder_step_b3 (some x) c.toNat ((ln : Int) == 7) Q h
      rw [e7]
      by_cases hl : ln = 7
      · rw [decide_eq_true hl]
        exact b3t (bad (fun _ _ => by omega) fun h => by rw [hx] at h; cases h)
      · rw [decide_eq_false hl]
        have ok3 := ok3 (by omega)
        rw [hx] at hk
        simp only at hk
        rw [if_pos (by omega)] at hk
        unfold ref27_Decoder_step_b3
        rw [if_neg (by decide)]
        refine nn_mk (ldI_mk (o.cells.at rfl) ?_)
        refine digit_c c ⟨_, rfl, ldI_mk (o.cells.at rfl) rfl, nn_mk ?_⟩
        rw [he]
        have es := r1 (by omega)
        subst es
        rw [wr (x := 16 * (size : Int)) (by omega) (by omega), wr (by omega) (by omega), show 16 * (size : Int) + n = ((size * 16 + n : Nat) : Int) by omega]
        refine st1_own o 1 (by simp [rvals]) rfl fun h1 f1 s1 o1 => ?_
        exact count h1 st (size * 16 + n) (size * 16 + n) o1 f1 s1 (fun _ => rfl) (by omega) hk
  refine nn_mk (ldI_mk (o.cells.at0 rfl) ?_)
  refine ifE (fun (e : (st : Int) = 0) => ?_) fun (e : (st : Int) ≠ 0) => b2 (by omega)
  refine ifE (fun e2 => ?_) fun e2 => b2 (by omega)
  refine nn_mk (ldI_mk (o.cells.at rfl) ?_)
  refine ifD (fun (e3 : (ln : Int) > 0) => ?_) fun (e3 : ¬ (ln : Int) > 0) => b2 (by omega)
  have e59 : c.toNat = 59 := by omega
  rw [e59, hexN_59] at hk
  simp only at hk
  rw [if_neg (by omega)] at hk
  refine nn_mk (st1_own0 o (by simp [rvals]) rfl fun h1 f1 s1 o1 => ?_)
  exact count h1 1 size sz o1 f1 s1 (fun _ => r1 (by omega)) (by omega) hk
theorem rstep_c [Gh] {h : Heap} {x : Addr} {d : Dec} (o : OwnR h x d) (ok : d.ok) (h2 : d.st ≠ 2) (h5 : d.st ≠ 5) (c : UInt8) {Q : Value → Heap → Prop}
    (hk : ∀ h', Fr (fun b => b = x.block) h h' → h'.size = h.size → OwnA h' x → ((stepD d c.toNat).1 = 0 → OwnR h' x (stepD d c.toNat).2) → Q (.int .i64 (stepD d c.toNat).1) h') :
    CallT Tryd.prog fn_ref27_Decoder_step #[.pointer (some x), .int .u8 c.toNat] h Q := by
  apply ref27_Decoder_step_s
  unfold ref27_Decoder_step_v
  unfold stepD at hk
  refine ifE (fun e => ?_) fun e => ?_
  · rw [if_pos (by omega)] at hk
    exact end_c o ok h2 h5 fun h' f s a b => ⟨_, rfl, hk h' f s a b⟩
  rw [if_neg (by omega)] at hk
  have oR := o
  have oa := o.any
  obtain ⟨size, ln, w, left, o, r1, r2, r3⟩ := o
  have okd := ok
  obtain ⟨ok1, ok2, ok3, ok4, ok5, ok6⟩ := ok
  obtain ⟨rfl, rfl⟩ := r3 (by omega)
  refine nn_mk (ldB_mk (o.cells.at rfl) ?_)
  have o0 := o
  refine ifB (fun (ew : d.w = true) => ?_) fun (ew : d.w = false) => ?_
  · rw [if_pos ew] at hk
    refine free_c o ⟨_, rfl, ?_⟩
    refine ifN (fun e2 => ?_) fun e2 => ?_
    · have e2 := of_decide_eq_false e2
      rw [if_pos (by omega)] at hk
      exact hk h (Fr.refl _ _) rfl oa (by simp)
    · have e2 := of_decide_eq_true e2
      rw [if_neg (by omega)] at hk
      unfold ref27_Decoder_step_b4
      refine nn_mk (ldB_mk (o.cells.at rfl) ?_)
      rw [if_pos ew]
      refine nn_mk (st1_own o 3 (by simp [rvals]) rfl fun h1 f1 s1 o1 => ?_)
      have o1 : OwnV h1 x d.st size d.len false left := o1
      refine rcount_c o1 ok1 fun h2' f2 s2 o2 => ⟨_, rfl, ?_⟩
      refine ifNe (fun e3 => ?_) fun e3 => ?_
      · have e3 : (cnt { d with w := false }).1 ≠ 0 := by unfold cnt; simp only; omega
        rw [if_pos e3] at hk
        exact hk h2' (f1.trans f2) (by omega) ⟨_, _, _, _, _, o2⟩ fun h => absurd h e3
      · have e3 : (cnt { d with w := false }).1 = 0 := by unfold cnt; simp only; omega
        rw [if_neg (not_not_intro e3)] at hk
        have okc : (cnt { d with w := false }).2.ok := by
          unfold cnt at e3 ⊢
          simp only at e3
          refine ⟨by simp only; split at e3 <;> omega, ok2, ?_, ?_, fun e => absurd e h2, ok6⟩
          · simp only; intro e; omega
          · simp
        exact rstepC_c (d := (cnt { d with w := false }).2) ⟨_, _, _, _, o2, r1, r2, fun _ => ⟨rfl, rfl⟩⟩ okc h2 h5 c fun h' f s a b => hk h' ((f1.trans f2).trans f) (by omega) a b
  · rw [if_neg (by rw [ew]; decide)] at hk
    unfold ref27_Decoder_step_b4
    refine nn_mk (ldB_mk (o.cells.at rfl) ?_)
    rw [if_neg (by rw [ew]; decide)]
    exact rstepC_c oR okd h2 h5 c hk
theorem app1 [Gh] {h : Heap} {p : Option Addr} {c : Nat} {out : List UInt8} (x : UInt8) {b : Addr} (o : OwnC h p c 1 (bytesV out)) (ob : Own h b [.int .u8 x.toNat] T_uint8) (hc : out.length ≤ c) (lim : out.length ≤ 2 ^ 41) {K : Value → Heap → Prop}
    (hk : ∀ (p' : Option Addr) (c' : Nat) (h' : Heap), OwnC h' p' c' 1 (bytesV (out ++ [x])) → (out ++ [x]).length ≤ c' → Fr (InA p) h h' → (∀ b, InA p' b → InA p b ∨ h.size ≤ b) → K (.slice p' (out ++ [x]).length c') h') :
    bltV Tryd.prog .append #[T_sl_uint8, T_sl_uint8] T_sl_uint8 #[false, false] #[.slice p out.length c, .slice (some b) 1 1] h K := by
  have es : (Tryd.t5).size = 1 := by kernel_rfl
  have eb : (Tryd.t5).bytes = 1 := by kernel_rfl
  refine append_own el_u8 Tryd.underlying35 (by intro k e; cases e) (m := 1) (xs := [.int .u8 x.toNat]) (by rw [es]; exact o) (by rw [bytesV_len, es]; omega) hc (by rw [es]; exact .sl _ _ _ _ rfl ob.cells) (by intro v hv; rw [List.mem_singleton.1 hv]; rfl) (by rw [eb]; omega) ?_
  intro p' c' h' o' hc' f hn
  have e : out.length + 1 = (out ++ [x]).length := by simp
  rw [e] at hc' ⊢
  rw [es] at o'
  refine hk p' c' h' ?_ hc' f hn
  have e : bytesV (out ++ [x]) = bytesV out ++ [.int .u8 x.toNat] := by simp [bytesV, byteV]
  rw [e]; exact o'
theorem rfeedloop_c [Gh] {h0 : Heap} {x : Addr} {d0 : Dec} {s0 : List UInt8} (o : OwnR h0 x d0) (ok : d0.ok) (n5 : d0.st ≠ 5) (lim : s0.length ≤ 2 ^ 40) {Q : Value → Heap → Prop}
    (hk : ∀ h', Fr (fun b => b = x.block) h0 h' → ((feedB s0 d0 []).d.st ≠ 6 → OwnR h' x (feedB s0 d0 []).d) → ((feedB s0 d0 []).d.st = 6 → ∃ a b c e, OwnV h' x 6 a b c e) → Q (feedB s0 d0 []).v h') :
    LoopV (fun (s : (Option Addr) × Nat × Nat × Int) h Kn => ref27_Decoder_Feed_l1 (some x) (bs s0) Q s.1 s.2.1 s.2.2.1 s.2.2.2 h Kn) (none, 0, 0, 0) h0 := by
  have lx := o.lt
  refine LoopV.mk (fun st h' => ∃ (k : Nat) (p : Option Addr) (c : Nat) (d : Dec) (out : List UInt8), st = (p, out.length, c, (k : Int)) ∧ k ≤ s0.length ∧ out.length ≤ k ∧ out.length ≤ c ∧ OwnC h' p c 1 (bytesV out) ∧ (∀ b, InA p b → h0.size ≤ b) ∧ Fr (fun b => b = x.block) h0 h' ∧ OwnR h' x d ∧ d.ok ∧ d.st ≠ 5 ∧ feedB s0 d0 [] = feedB (s0.drop k) d out)
    (fun st _ => s0.length - st.2.2.2.toNat) ⟨0, none, 0, d0, [], rfl, by omega, by simp, by simp, ⟨rfl, rfl⟩, fun b hb => (notInA hb).elim, Fr.refl _ _, o, ok, n5, rfl⟩ ?_
  rintro - h1 ⟨k, p, c, d, out, rfl, hkl, hol, hc, oc, hp, f1, o1, ok, n5, hf⟩
  rw [hf] at hk
  have z1 := f1.size
  unfold ref27_Decoder_Feed_l1
  simp only
  rw [bs_size]
  refine ifD (fun hb => ?_) fun hb => ?_
  · have hk2 : k < s0.length := by omega
    have ed : s0.drop k = s0.getD k 0 :: s0.drop (k + 1) := by
      rw [List.drop_eq_getElem_cons hk2]; congr 1; rw [List.getD_eq_getElem?_getD, List.getElem?_eq_getElem hk2]; rfl
    rw [ed] at hk hf
    rw [wr (x := (k : Int) + 1) (by omega) (by omega)]
    have oany := o1
    obtain ⟨size, ln, w, left, ov, r1, r2, r3⟩ := o1
    refine nn_mk (ldI_mk (ov.cells.at0 rfl) ?_)
    have px : ¬ InA p x.block := fun hi => by have := hp _ hi; omega
    refine ifE (fun (e : (d.st : Int) = 2) => ?_) fun (e : (d.st : Int) ≠ 2) => ?_
    · have e : d.st = 2 := by omega
      have ok5 := ok.2.2.2.2.1 e
      have okl := ok.2.1
      have eo := eat_ok ok e 1 (by omega)
      rw [feedB, if_pos e] at hf
      refine idxS_bs _ _ _ (by omega) (by omega) ?_
      rw [Int.toNat_natCast]
      generalize s0.getD k 0 = y at *
      refine al_mk (vs := [.int .u8 y.toNat]) fun b h2 f2 e2 o2 => ?_
      have oc2 := oc.fr f2 (fun _ _ => id)
      have lb := o2.lt
      refine app1 y oc2 o2 hc (by omega) fun p' c' h3 oc3 hc3 f3 hn3 => ⟨_, _, _, rfl, nn_mk ?_⟩
      have z2 := f2.size
      have ov3 : OwnV h3 x d.st size ln w left := Own.fr (Own.fr0 f2 ov) f3 px
      have hp' : ∀ b, InA p' b → h0.size ≤ b := fun b hb => by
        rcases hn3 b hb with h | h
        · exact hp b h
        · omega
      have f03 : Fr (fun b => b = x.block) h0 h3 := (f1.tr f2 fun _ _ h => h.elim).tr f3 fun b hb hi => by have := hp b hi; omega
      refine ldI_mk (ov3.cells.at rfl) (nn_mk ?_)
      have el := r2 e
      have ew : wrap .i64 ((left : Int) - 1) = ((left - 1 : Nat) : Int) := by rw [wr (by omega) (by omega)]; omega
      rw [ew]
      refine st1_own ov3 4 (by simp [rvals]) rfl fun h4 f4 s4 ov4 => ?_
      have ov4 : OwnV h4 x d.st size ln w (left - 1) := ov4
      refine nn_mk (ldI_mk (ov4.cells.at rfl) ?_)
      have oc4 := oc3.fr f4 (fun b hb => by have := hp' b hb; omega)
      have r3 := r3 (by omega)
      refine ifE (fun (e3 : ((left - 1 : Nat) : Int) = 0) => ?_) fun (e3 : ((left - 1 : Nat) : Int) ≠ 0) => ?_
      · refine begin_c ov4 3 rfl fun h5 f5 s5 ov5 => ⟨rfl, ?_⟩
        rw [if_pos (by omega)] at hf eo
        refine ⟨⟨k + 1, p', c', _, out ++ [y], rfl, by omega, by simp; omega, hc3, oc4.fr f5 (fun b hb => by have := hp' b hb; omega), hp', (f03.trans f4).trans f5, ?_, eo, by simp, hf⟩, by omega⟩
        exact ⟨_, _, _, _, ov5, by simp, by simp, fun _ => ⟨ok5.2.1.symm, ok5.2.2.symm⟩⟩
      · rw [if_neg (by omega)] at hf eo
        refine ⟨⟨k + 1, p', c', _, out ++ [y], rfl, by omega, by simp; omega, hc3, oc4, hp', f03.trans f4, ?_, eo, by simp, hf⟩, by omega⟩
        rw [e] at ov4
        exact ⟨_, _, _, _, ov4, by simp, fun _ => by simp only; omega, fun _ => r3⟩
    · have e : d.st ≠ 2 := by omega
      refine idxS_bs _ _ _ (by omega) (by omega) ?_
      rw [Int.toNat_natCast]
      generalize s0.getD k 0 = y at *
      rw [feedB, if_neg e] at hk hf
      have sok := stepD_ok ok e (c := y.toNat)
      refine rstep_c oany ok e n5 y fun h2 f2 s2 oa2 or2 => ⟨_, rfl, ?_⟩
      generalize stepD d y.toNat = r at *
      obtain ⟨er, d2⟩ := r
      simp only at *
      have oc2 := oc.fr f2 (fun b hb => by have := hp b hb; omega)
      refine ifNe (fun (e2 : (er : Int) ≠ 0) => ?_) fun (e2 : (er : Int) = 0) => ?_
      · rw [if_pos (by omega)] at hk
        obtain ⟨_, _, _, _, _, oa2⟩ := oa2
        refine nn_mk (st1_own0 oa2 (by simp [rvals]) rfl fun h3 f3 s3 oa3 => ?_)
        refine conv8 (oc2.fr f3 (fun b hb => by have := hp b hb; omega)) ⟨_, rfl, ?_⟩
        exact hk h3 ((f1.trans f2).trans f3) (fun h => absurd rfl h) fun _ => ⟨_, _, _, _, oa3⟩
      · have e2 : er = 0 := by omega
        rw [if_neg (not_not_intro e2)] at hk hf
        have or2 := or2 e2
        have sok := sok e2
        have or2' := or2
        obtain ⟨_, _, _, _, ov2, _⟩ := or2'
        have hst := sok.2.2.2.2.2
        refine nn_mk (ldI_mk (ov2.cells.at0 rfl) ?_)
        refine ifE (fun (e5 : (d2.st : Int) = 5) => ?_) fun (e5 : (d2.st : Int) ≠ 5) => ?_
        · rw [if_pos (by omega)] at hk
          refine slFrom (k + 1) rfl (by omega) (conv8 oc2 ⟨_, rfl, ?_⟩)
          exact hk h2 (f1.trans f2) (fun _ => or2) fun h => by simp only at h; omega
        · rw [if_neg (by omega)] at hk hf
          exact ⟨⟨k + 1, p, c, d2, out, rfl, by omega, by omega, hc, oc2, hp, f1.trans f2, or2, sok, by omega, hf⟩, by omega⟩
  · have e : k = s0.length := by omega
    subst e
    unfold ref27_Decoder_Feed_b2
    rw [List.drop_length] at hk
    refine conv8 oc ⟨_, rfl, hk h1 f1 (fun _ => o1) fun h => ?_⟩
    have := ok.2.2.2.2.2
    simp only [feedB] at h
    omega
end Go.Proofs.YtjhcockaojlfiaaDoor
