/-
  Feed of the program's splitter; the reference's splitter.
-/
import Derived.Test.YtdpimhlppflidaaDoorSmA
namespace Go.Proofs.YtdpimhlppflidaaDoor
set_option linter.unusedSimpArgs false
set_option linter.unusedVariables false
set_option maxRecDepth 20000
open Go
open Go.IntKind (wrap)
/-- What holds while Feed goes through its text. -/
structure FI (h0 h : Heap) (ok : Nat → Prop) (b : Addr) (mx : Nat) (t2 t3 t5 : Addr) (B rest : Nm) (out : List Ln) : Prop where
  s : Own h t3 [.string (bs rest)] T_string
  p : Own h t2 [.pointer (some b)] T_p_lines_Splitter
  o : ∃ r c K, Own h t5 [.slice r out.length c] T_sl_api_Line ∧ Row 2 lnV h r c out ∧ SplF K h b mx B ∧ (∀ x, InA r x → h0.size ≤ x ∧ x ≠ t2.block ∧ x ≠ t3.block ∧ x ≠ t5.block ∧ ¬ K x) ∧ ∀ x, K x → x < h.size ∧ (ok x ∨ h0.size ≤ x) ∧ x ≠ t2.block ∧ x ≠ t3.block ∧ x ≠ t5.block
  fr : Fr ok h0 h
  ne : t2.block ≠ t3.block ∧ t2.block ≠ t5.block ∧ t3.block ≠ t5.block
  new : h0.size ≤ t2.block ∧ h0.size ≤ t3.block ∧ h0.size ≤ t5.block
  small : out.length + rest.length < 2 ^ 28 ∧ B.length + rest.length < 2 ^ 28
theorem step_c [Gh] {h0 h : Heap} {ok : Nat → Prop} {b : Addr} {mx : Nat} {t2 t3 t5 : Addr} {B rest : Nm} {out : List Ln} (I : FI h0 h ok b mx t2 t3 t5 B rest out) {Q : Value → Heap → Prop}
    (hno : idx10 rest = none → Q (.bool false) h)
    (hyes : ∀ i h', idx10 rest = some i → FI h0 h' ok b mx t2 t3 t5 [] (rest.drop (i + 1)) (out ++ [lineL mx (bareL (B ++ rest.take i))]) → Q (.bool true) h') :
    CallT Tryd.prog fn_lines_Splitter_Feed_1 #[.pointer (some t3), .pointer (some t2), .pointer (some t5)] h Q := by
  obtain ⟨os, op, ⟨r, c, K, oo, R, S, hr, hK⟩, fr, ⟨n1, n2, n3⟩, ⟨w1, w2, w3⟩, hsm1, hsm2⟩ := I
  apply lines_Splitter_Feed_1_s
  unfold lines_Splitter_Feed_1_v
  refine ldS_mk (os.cells.at0 rfl) (IndexByte_c rest ⟨_, rfl, ?_⟩)
  cases hi : idx10 rest with
  | none =>
    refine ifD (fun _ => hno hi) fun h => absurd h (by decide)
  | some i =>
    obtain ⟨r', hr', hn10, hd, hlt⟩ := idx10_some hi
    dsimp only
    refine ifD (fun h => absurd h (by omega)) fun _ => ?_
    refine ldP_mk (op.cells.at0 rfl) (ldS_mk (os.cells.at0 rfl) (slT rest i rfl (by omega) ?_))
    have hti : (rest.take i).length = i := by rw [List.length_take]; omega
    have z0 := fr.size
    have ls := os.lt
    have lp := op.lt
    have lo := oo.lt
    refine append_c S _ (by rw [hti]; omega) fun h1 f1 S1 => ⟨rfl, ?_⟩
    have z1 := f1.size
    have K1 : SplF (fun x => (K x ∨ h.size ≤ x) ∧ x < h1.size) h1 b mx (B ++ rest.take i) := S1.to fun x hx h => ⟨h, hx⟩
    have os1 := os.fr f1 fun h => (hK _ h).2.2.2.1 rfl
    have op1 := op.fr f1 fun h => (hK _ h).2.2.1 rfl
    have oo1 := oo.fr f1 fun h => (hK _ h).2.2.2.2 rfl
    have R1 := R.fr f1 fun x hx h => (hr x hx).2.2.2.2 h
    refine ldL_mk (oo1.cells.at0 rfl) (ldP_mk (op1.cells.at0 rfl) (ldP_mk (op1.cells.at0 rfl) ?_))
    refine length_c K1 ⟨_, rfl, ldL_ (oo1.cells.at0 rfl), ldP_ (op1.cells.at0 rfl), ?_⟩
    refine line_c K1 (bareL (B ++ rest.take i)).length fun h2 f2 S2 => ⟨_, _, rfl, ?_⟩
    have z2 := f2.size
    have nk : ∀ x, (x = t2.block ∨ x = t3.block ∨ x = t5.block) → ¬ ((K x ∨ h.size ≤ x) ∧ x < h1.size) := fun x hx h => by
      rcases h.1 with h' | h'
      · have := hK x h'; omega
      · omega
    have os2 := os1.fr f2 (nk _ (.inr (.inl rfl)))
    have op2 := op1.fr f2 (nk _ (.inl rfl))
    have oo2 := oo1.fr f2 (nk _ (.inr (.inr rfl)))
    have R2 := R1.fr f2 fun x hx h => by
      rcases h.1 with h' | h'
      · exact (hr x hx).2.2.2.2 h'
      · have := R.lt hx; omega
    refine ⟨ldL_ (oo2.cells.at0 rfl), ?_⟩
    have e1 : (B ++ rest.take i).take (min (bareL (B ++ rest.take i)).length mx) = (bareL (B ++ rest.take i)).take mx := by
      rw [Nat.min_comm, ← List.take_take, bareL_take]
    rw [e1]
    refine al_mk (vs := lnV (lineL mx (bareL (B ++ rest.take i)))) fun t19 h3 f3 e3 o3 => ?_
    have z3 := f3.size
    refine ⟨ldL_ ((oo2.fr0 f3).cells.at0 rfl), ?_⟩
    refine appLn (R2.fr0 f3) o3 (by omega) fun r4 c4 h4 R4 f4 hn4 => ⟨_, _, _, rfl, ?_⟩
    have z4 := f4.size
    have os4 := (os2.fr0 f3).fr f4 fun h => (hr _ h).2.2.1 rfl
    have op4 := (op2.fr0 f3).fr f4 fun h => (hr _ h).2.1 rfl
    have oo4 := (oo2.fr0 f3).fr f4 fun h => (hr _ h).2.2.2.1 rfl
    have S3 : SplF (fun x => (K x ∨ h.size ≤ x) ∧ x < h1.size) h3 b mx [] := S2.fr0 f3
    have S4 := S3.fr f4 fun x hx hrx h => by
      rcases h.1 with h' | h'
      · exact (hr x hrx).2.2.2.2 h'
      · have := R.lt hrx; omega
    refine st1_own0 oo4 (by simp) rfl fun h5 f5 s5 oo5 => ?_
    have os5 := os4.fr f5 n3
    have op5 := op4.fr f5 n2
    refine ldS_mk (os5.cells.at0 rfl) (slF rest (i + 1) (by rw [wr (by omega) (by omega)]; rfl) (by omega) ?_)
    refine st1_own0 os5 (by simp) rfl fun h6 f6 s6 os6 => ?_
    have S6 := (S4.fr f5 fun x hx h hk => by subst h; exact nk _ (.inr (.inr rfl)) hk).fr f6 fun x hx h hk => by subst h; exact nk _ (.inr (.inl rfl)) hk
    have hr4 : ∀ x, InA r4 x → h0.size ≤ x ∧ x ≠ t2.block ∧ x ≠ t3.block ∧ x ≠ t5.block ∧ ¬ ((K x ∨ h.size ≤ x) ∧ x < h1.size) := fun x hx => by
      rcases hn4 x hx with h | h
      · have h' := hr x h
        refine ⟨h'.1, h'.2.1, h'.2.2.1, h'.2.2.2.1, fun hk => ?_⟩
        rcases hk.1 with hk' | hk'
        · exact h'.2.2.2.2 hk'
        · have := R.lt h; omega
      · exact ⟨by omega, by omega, by omega, by omega, fun hk => by omega⟩
    refine hyes i h6 hi ⟨os6, op5.fr f6 n1, ⟨r4, c4, _, oo5.fr f6 n3.symm, (R4.fr f5 fun x hx h => (hr4 x hx).2.2.2.1 h).fr f6 fun x hx h => (hr4 x hx).2.2.1 h, S6, hr4, fun x hx => ?_⟩, ?_, ⟨n1, n2, n3⟩, ⟨w1, w2, w3⟩, ?_, ?_⟩
    · refine ⟨by omega, ?_, ?_⟩
      · rcases hx.1 with h | h
        · exact (hK x h).2.1
        · exact .inr (by omega)
      · rcases hx.1 with h | h
        · have := hK x h; exact this.2.2
        · omega
    · have kk : ∀ x, x < h0.size → ((K x ∨ h.size ≤ x) ∧ x < h1.size) → ok x := fun x hx h => by
        rcases h.1 with h' | h'
        · rcases (hK x h').2.1 with h2 | h2
          · exact h2
          · omega
        · omega
      exact ((((fr.tr f1 fun x hx h => by rcases (hK x h).2.1 with h2 | h2; exact h2; omega).tr f2 kk).tr f3 fun _ _ h => h.elim).tr f4 fun x hx h => by have := (hr x h).1; omega).tr f5 (fun x hx h => by omega) |>.tr f6 fun x hx h => by omega
    · rw [List.length_append, List.length_drop, List.length_singleton]; omega
    · rw [List.length_drop, List.length_nil]; omega
theorem lnFeed_c [Gh] {h : Heap} {ok : Nat → Prop} {b : Addr} {mx : Nat} {B : Nm} (S : SplF ok h b mx B) (l : Nm) (hl : B.length + l.length < 2 ^ 28) {Q : Value → Heap → Prop}
    (hk : ∀ h' r c, Fr ok h h' → SplF (fun x => ok x ∨ h.size ≤ x) h' b mx (feedL mx B l).2 → Row 2 lnV h' r c (feedL mx B l).1 → Q (.slice r (feedL mx B l).1.length c) h') :
    CallT Tryd.prog fn_lines_Splitter_Feed #[.pointer (some b), .string (bs l)] h Q := by
  apply lines_Splitter_Feed_s
  unfold lines_Splitter_Feed_v
  refine al_mk (vs := [.pointer (some b)]) fun t2 h1 f1 e1 o1 => ?_
  refine al_mk (vs := [.string (bs l)]) fun t3 h2 f2 e2 o2 => ?_
  refine ldP_mk ((o1.fr0 f2).cells.at0 rfl) (ifNS ?_)
  refine al_mk (vs := [.slice none 0 0]) fun t5 h3 f3 e3 o3 => ?_
  have z1 := f1.size
  have z2 := f2.size
  have z3 := f3.size
  have lt := S.lt
  have l1 := o1.lt
  have l2 := o2.lt
  have F : Fr (fun _ => False) h h3 := (f1.trans f2).trans f3
  have I0 : FI h h3 ok b mx t2 t3 t5 B l [] := ⟨o2.fr0 f3, (o1.fr0 f2).fr0 f3, ⟨none, 0, fun x => ok x ∧ x < h.size, o3, Row.nil, (S.to (ok' := fun x => ok x ∧ x < h.size) fun x hx h => ⟨h, hx⟩).fr0 F, fun x hx => (notInA hx).elim, fun x hx => ⟨by omega, .inl hx.1, by omega, by omega, by omega⟩⟩, F.mono fun _ h => h.elim, by omega, by omega, by simp; omega, by omega⟩
  refine LoopV.go (fun n _ h' => ∃ B' rest out, n = rest.length ∧ FI h h' ok b mx t2 t3 t5 B' rest out ∧ feedL mx B l = (out ++ (feedL mx B' rest).1, (feedL mx B' rest).2)) l.length ⟨B, l, [], rfl, I0, rfl⟩ ?_
  rintro n - h4 ⟨B', rest, out, rfl, I, hf⟩ Kn hK
  unfold lines_Splitter_Feed_l1
  refine step_c I (fun hi => ⟨_, rfl, ?_⟩) fun i h5 hi I5 => ⟨_, rfl, ?_⟩
  · rw [if_neg Bool.false_ne_true]
    have hn := idx10_none hi
    rw [feedL_none mx rest B' hn] at hf
    rw [List.append_nil] at hf
    unfold lines_Splitter_Feed_b2
    obtain ⟨os, op, ⟨r, c, K, oo, R, S4, hr, hKK⟩, fr, ⟨n1, n2, n3⟩, ⟨w1, w2, w3⟩, hsm1, hsm2⟩ := I
    refine ldP_mk (op.cells.at0 rfl) (ldS_mk (os.cells.at0 rfl) ?_)
    refine append_c S4 rest (by omega) fun h5 f5 S5 => ⟨rfl, ?_⟩
    refine ldL_mk ((oo.fr f5 fun h => (hKK _ h).2.2.2.2 rfl).cells.at0 rfl) ?_
    rw [hf] at hk
    have z4 := fr.size
    have z5 := f5.size
    refine hk h5 r c (fr.tr f5 fun x hx h => ?_) (S5.to fun x _ h => ?_) (R.fr f5 fun x hx h => (hr x hx).2.2.2.2 h)
    · rcases (hKK x h).2.1 with h2 | h2
      · exact h2
      · omega
    · rcases h with h | h
      · exact (hKK x h).2.1
      · exact .inr (by omega)
  · rw [if_pos rfl]
    obtain ⟨r', hr', hn10, hd, hlt⟩ := idx10_some hi
    refine hK (rest.drop (i + 1)).length _ _ (by rw [List.length_drop]; omega) ⟨[], rest.drop (i + 1), _, rfl, I5, ?_⟩
    rw [hf]
    conv => lhs; rw [hr']
    rw [feedL_some mx r' _ _ hn10, hd]
    simp
/-! ### The reference's splitter -/
def RSpl (h : Heap) (b : Addr) (mx : Nat) (B : Nm) : Prop := Own h b [.int .i64 mx, .string (bs B)] T_intrusionref25_Splitter
theorem rlnNew_c [Gh] {h : Heap} {Q : Value → Heap → Prop} (hk : ∀ b h', Fr (fun _ => False) h h' → b.block = h.size → RSpl h' b 512 [] → Q (.pointer (some b)) h') : CallT Tryd.prog fn_ref25_New #[.int .i64 512] h Q := by
  apply ref25_New_s
  unfold ref25_New_v
  refine ifD (fun e => absurd e (by decide)) fun _ => ?_
  unfold ref25_New_b1
  refine ifD (fun e => absurd e (by decide)) fun _ => ?_
  unfold ref25_New_b2
  exact al_mk (vs := [.int .i64 (512 : Nat), .string (bs [])]) fun b h1 f1 e1 o1 => hk b h1 f1 e1 o1
theorem rline_c [Gh] {h : Heap} {b : Addr} {mx : Nat} {B : Nm} (S : RSpl h b mx B) (l : Nm) {Q : Value → Heap → Prop} (hk : ∀ h', Fr (fun _ => False) h h' → Q (.agg #[.string (bs (lineL mx l).1), .bool (lineL mx l).2]) h') : CallT Tryd.prog fn_ref25_Splitter_line #[.pointer (some b), .string (bs l)] h Q := by
  apply ref25_Splitter_line_s
  unfold ref25_Splitter_line_v
  refine al_mk (vs := [.string (bs []), .bool false]) fun t4 h1 f1 e1 o1 => ?_
  have S1 : Own h1 b [.int .i64 mx, .string (bs B)] T_intrusionref25_Splitter := Own.fr0 f1 S
  refine nn_mk (ldI_mk (S1.cells.at0 rfl) ?_)
  rw [bs_size]
  unfold lineL at hk
  refine ifD (fun e => ?_) fun e => ?_
  · refine nn_mk (ldI_mk (S1.cells.at0 rfl) (slT l mx rfl (by omega) ?_))
    refine stN_own o1 (ws := [.string (bs (l.take mx)), .bool true]) (by rfl) (by rfl) fun h2 f2 _ o2 => ?_
    refine ldS_mk (o2.cells.at0 rfl) (ldB_mk (o2.cells.at (j := 1) rfl) ?_)
    have := hk h2 (f1.tr f2 fun x hx h => by omega)
    rw [decide_eq_true (by omega)] at this
    exact this
  · refine stN_own o1 (ws := [.string (bs l), .bool false]) (by rfl) (by rfl) fun h2 f2 _ o2 => ?_
    refine ldS_mk (o2.cells.at0 rfl) (ldB_mk (o2.cells.at (j := 1) rfl) ?_)
    have := hk h2 (f1.tr f2 fun x hx h => by omega)
    simp only at this
    rw [decide_eq_false (by omega), List.take_of_length_le (by omega)] at this
    exact this
theorem rbare_c [Gh] (l : Nm) (hl : l.length < 2 ^ 40) {h : Heap} {Q : Value → Heap → Prop} (hk : Q (.string (bs (bareL l))) h) : CallT Tryd.prog fn_ref25_bare #[.string (bs l)] h Q := by
  apply ref25_bare_s
  unfold ref25_bare_v
  rw [bs_size]
  unfold bareL at hk
  refine ifSn (m := []) (fun hne => ?_) fun he => ?_
  · have hpos : 0 < l.length := List.length_pos_iff.2 hne
    rw [wr (by omega) (by omega)]
    refine ixS l (l.length - 1) (by omega) (by omega) ?_
    have hgl : l.getLast? = some (l[l.length - 1]'(by omega)) := by rw [List.getLast?_eq_getElem?, List.getElem?_eq_getElem (by omega)]
    refine ifE (fun e => ?_) fun e => ?_
    · refine slT l (l.length - 1) (by omega) (by omega) ?_
      rw [hgl, if_pos (by congr 1; exact byteI_inj (by rw [e]; rfl)), List.dropLast_eq_take] at hk
      exact hk
    · rw [hgl, if_neg fun h => e (by rw [Option.some.inj h]; rfl)] at hk
      exact hk
  · subst he; exact hk
theorem rlnFeed_c [Gh] {h : Heap} {b : Addr} {mx : Nat} {B : Nm} (S : RSpl h b mx B) (l : Nm) (hl : B.length + l.length < 2 ^ 28) {Q : Value → Heap → Prop}
    (hk : ∀ h' r c, Fr (fun x => x = b.block) h h' → RSpl h' b mx (feedL mx B l).2 → Row 2 lnV h' r c (feedL mx B l).1 → Q (.slice r (feedL mx B l).1.length c) h') :
    CallT Tryd.prog fn_ref25_Splitter_Feed #[.pointer (some b), .string (bs l)] h Q := by
  apply ref25_Splitter_Feed_s
  unfold ref25_Splitter_Feed_v
  have S0 : Own h b [.int .i64 mx, .string (bs B)] T_intrusionref25_Splitter := S
  have lt := S0.lt
  refine nn_mk (ldS_mk (S0.cells.at (j := 1) rfl) ?_)
  rw [bs_size, bs_size, imax, bs_append]
  refine ⟨by omega, nn_mk (ldS_mk (S0.cells.at (j := 1) rfl) ?_)⟩
  rw [bs_size]
  have hal : (B ++ l).length = B.length + l.length := List.length_append
  refine LoopV.go (fun n st h' => ∃ (out : List Ln) (frm j : Nat), st.2.1 = out.length ∧ st.2.2.2.1 = (frm : Int) ∧ st.2.2.2.2 = ((B.length + j : Nat) : Int) ∧ n = l.length - j ∧ j ≤ l.length ∧ frm ≤ B.length + j ∧ out.length ≤ j ∧ Fr (fun _ => False) h h' ∧ Row 2 lnV h' st.1 st.2.2.1 out ∧ (∀ x, InA st.1 x → h.size ≤ x) ∧ feedL mx B l = (out ++ (feedL mx (((B ++ l).drop frm).take (B.length + j - frm)) (l.drop j)).1, (feedL mx (((B ++ l).drop frm).take (B.length + j - frm)) (l.drop j)).2)) l.length
    ⟨[], 0, 0, rfl, rfl, rfl, rfl, by omega, by omega, by simp, Fr.refl _ _, Row.nil, fun x hx => (notInA hx).elim, by simp⟩ ?_
  rintro n ⟨p, n1, c, f7, i8⟩ h1 ⟨out, frm, j, hn, hfm, hi, rfl, hj, hfj, hol, f1, R1, hp, hf⟩ Kn hK
  have hn : n1 = out.length := hn
  have hfm : f7 = (frm : Int) := hfm
  have hi : i8 = ((B.length + j : Nat) : Int) := hi
  subst hn hfm hi
  dsimp only at R1 hp ⊢
  have S1 := S0.fr0 f1
  have z1 := f1.size
  unfold ref25_Splitter_Feed_l1
  rw [bs_size, hal]
  refine ifD (fun e => ?_) fun e => ?_
  · have hlt : j < l.length := by omega
    have hcur : ((B ++ l).drop frm).take (B.length + (j + 1) - frm) = ((B ++ l).drop frm).take (B.length + j - frm) ++ [l[j]] := by
      have e1 : B.length + (j + 1) - frm = (B.length + j - frm) + 1 := by omega
      have hl2 : B.length + j - frm < ((B ++ l).drop frm).length := by rw [List.length_drop, hal]; omega
      rw [e1, ← List.take_append_getElem hl2]
      congr 2
      rw [List.getElem_drop, List.getElem_append_right (by omega)]
      congr 1; omega
    have hclen : (((B ++ l).drop frm).take (B.length + j - frm)).length = B.length + j - frm := by rw [List.length_take, List.length_drop, hal]; omega
    refine ixS (B ++ l) (B.length + j) rfl (by omega) ?_
    have hg : (B ++ l)[B.length + j]'(by omega) = l[j] := by rw [List.getElem_append_right (by omega)]; congr 1; omega
    rw [hg]
    rw [List.drop_eq_getElem_cons hlt] at hf
    rw [wr (by omega) (by omega)]
    refine ifE (fun e10 => ?_) fun e10 => ?_
    · have h10 : l[j] = 10 := byteI_inj (by rw [e10]; rfl)
      refine slS (B ++ l) frm (B.length + j) rfl rfl hfj (by omega) ?_
      generalize hcc : ((B ++ l).drop frm).take (B.length + j - frm) = cur at *
      refine rbare_c cur (by omega) ⟨_, rfl, ?_⟩
      refine rline_c (mx := mx) S1 (bareL cur) fun h2 f2 => ⟨_, _, rfl, ?_⟩
      refine al_mk (vs := lnV (lineL mx (bareL cur))) fun t38 h3 f3 e3 o3 => ?_
      have z2 := f2.size
      have z3 := f3.size
      refine appLn ((R1.fr0 f2).fr0 f3) o3 (by omega) fun r4 c4 h4 R4 f4 hn4 => ⟨_, _, _, rfl, ?_⟩
      refine hK (l.length - (j + 1)) _ _ (by omega) ⟨out ++ [lineL mx (bareL cur)], B.length + (j + 1), j + 1, rfl, by dsimp only; omega, by dsimp only; omega, rfl, hlt, by omega, by rw [List.length_append, List.length_singleton]; omega, ((f1.trans f2).trans f3).tr f4 (fun x hx h => by have := hp x h; omega), R4, fun x hx => ?_, ?_⟩
      · rcases hn4 x hx with h | h
        · exact hp x h
        · omega
      · rw [hf]
        rw [feedL, if_pos h10]
        rw [Nat.sub_self, List.take_zero]
        simp
    · have h10 : l[j] ≠ 10 := fun h => e10 (by rw [h]; rfl)
      refine hK (l.length - (j + 1)) _ _ (by omega) ⟨out, frm, j + 1, rfl, rfl, by dsimp only; omega, rfl, hlt, by omega, by omega, f1, R1, hp, ?_⟩
      rw [hf, hcur, feedL, if_neg h10]
  · have hjl : j = l.length := by omega
    subst hjl
    unfold ref25_Splitter_Feed_b2
    refine slF (B ++ l) frm rfl (by omega) (nn_mk ?_)
    have hcur : ((B ++ l).drop frm).take (B.length + l.length - frm) = (B ++ l).drop frm := List.take_of_length_le (by rw [List.length_drop, hal]; omega)
    rw [hcur, List.drop_length] at hf
    have hf2 : feedL mx B l = (out, (B ++ l).drop frm) := by rw [hf, feedL]; simp
    rw [hf2] at hk
    refine st1_own S1 1 (by simp) rfl fun h2 f2 s2 o2 => ?_
    exact hk h2 p c ((f1.mono fun _ h => h.elim).trans f2) o2 (R1.fr f2 fun x hx h => by have := hp x hx; omega)
end Go.Proofs.YtdpimhlppflidaaDoor
