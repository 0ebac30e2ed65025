/-
  The program's session: a line of the server.
-/
import Derived.Test.YtdpimhlppflidaaDoorSmE
namespace Go.Proofs.YtdpimhlppflidaaDoor
set_option linter.unusedSimpArgs false
set_option linter.unusedVariables false
set_option maxRecDepth 20000
open Go
open Go.IntKind (wrap)
theorem ta_yes {P : Program} {xt t : TypeId} {v : Value} {h : Heap} {K : Value → Heap → Prop} {d : TypeDesc} (hu : P.underlying t = some d) (hd : ∀ ms, d ≠ .interface ms) (hk : K (.tuple #[v, .bool true]) h) : taV P (.iface t v) xt t true h K := by
  unfold taV Instr.typeAssert
  simp only [bind]
  rw [wpH_bind]
  refine wpH_underlying hu ?_
  cases d <;> first | exact absurd rfl (hd _) | (simp only [pure, Sem.bind, if_true, if_pos]; exact hk)
theorem ta_no {P : Program} {xt t t' : TypeId} {v z : Value} {i : TypeInfo} {h : Heap} {K : Value → Heap → Prop} {d : TypeDesc} (hu : P.underlying t = some d) (hd : ∀ ms, d ≠ .interface ms) (hn : t' ≠ t) (hi : P.info? t = some i) (hz : i.zero = some z) (hk : K (.tuple #[z, .bool false]) h) : taV P (.iface t' v) xt t true h K := by
  unfold taV Instr.typeAssert
  simp only [bind]
  rw [wpH_bind]
  refine wpH_underlying hu ?_
  have zr : wpH P (Sem.bind (zeroValue t) fun z => Sem.pure (Value.tuple #[z, .bool false])) K h := by
    rw [wpH_bind]
    unfold zeroValue; simp only [bind]; rw [wpH_bind]; refine wpH_info hi ?_; rw [hz]; exact hk
  cases d <;> first | exact absurd rfl (hd _) | (simp only [pure, Sem.bind, hn, if_false, if_true]; exact zr)
def sessV (s1 s2 ip : Option Addr) (ic : Nat) (tp : Option Addr) (tc : Nat) (st : PS) : List Value := [.pointer none, .pointer s1, .pointer s2, .slice ip st.items.length ic, .bool st.gr, .bool st.op, .bool st.im, .string (bs st.num), .slice tp st.tx.length tc]
section
variable {o : Tag} {k : Nat} {h : Heap} {p : SesA} {st : PS}
/-- A cell of the session's block is written, and its other parts stay. -/
theorem SesF.set1 [Gh] {ob : Addr} {evs : List Ev} (S : SesF o k h p st) (A : OutF o k h ob evs) (st' : PS) (j : Nat) (v : Value) (hj : j < 9) (hv : cellV v = true)
    (hc : st'.c = st.c) (hs : st'.s = st.s) (hi : st'.items = st.items) (ht : st'.tx = st.tx)
    (hset : ∀ s1 s2 ip ic tp tc, (sessV s1 s2 ip ic tp tc st).set j v = sessV s1 s2 ip ic tp tc st') {K : Heap → Prop}
    (hk : ∀ h', Fr (fun x => x = p.a.block) h h' → SesF o k h' p st' → OutF o k h' ob evs → K h') : st1 h (p.a.add j) v K := by
  obtain ⟨ip, ic, tp, tc, os, I, hi', T, ht', C, D⟩ := S.ex
  have tg := S.tag
  have os' : Own h p.a (sessV (some p.s1) (some p.s2) ip ic tp tc st) T_smtp_Session := os
  refine st1_own os' j (by show j < 9; exact hj) hv fun h3 f3 s3 os3 => ?_
  rw [hset] at os3
  have f : Fr (fun x => o x = k + 1) h h3 := f3.mono fun x hx => by subst hx; exact tg
  exact hk h3 f3 ⟨⟨ip, ic, tp, tc, os3, by rw [hi]; exact I.fr f fun x hx hb => by have := hi' x hx; omega, hi', by rw [ht]; exact T.fr f fun x hx hb => by have := ht' x hx; omega, ht', by rw [hc]; exact C.fr f (fun x hx hr => by omega) (Old.refl _ _), by rw [hs]; exact D.fr f (fun x hx hr => by omega) (Old.refl _ _)⟩, tg⟩ (A.fr f (fun x hx hr => by omega) (Old.refl _ _))
theorem SesF.cellB (S : SesF o k h p st) {K : Bool → Prop} : (K st.gr → ldB h (p.a.add 4) K) ∧ (K st.op → ldB h (p.a.add 5) K) ∧ (K st.im → ldB h (p.a.add 6) K) := by
  obtain ⟨ip, ic, tp, tc, os, _⟩ := S.ex
  exact ⟨fun hk => ldB_mk (os.cells.at (j := 4) rfl) hk, fun hk => ldB_mk (os.cells.at (j := 5) rfl) hk, fun hk => ldB_mk (os.cells.at (j := 6) rfl) hk⟩
theorem SesF.cellTx {K : Option Addr → Nat → Nat → Prop} (S : SesF o k h p st) (hk : ∀ q c, hcell h (p.a.add 8) = some (.slice q st.tx.length c) → Row 1 strV h q c st.tx → K q st.tx.length c) : ldL h (p.a.add 8) K := by
  obtain ⟨ip, ic, tp, tc, os, I, hi, T, _⟩ := S.ex
  have hc : hcell h (p.a.add 8) = some (.slice tp st.tx.length tc) := os.cells.at (j := 8) rfl
  exact ldL_mk hc (hk _ _ hc T)
theorem SesF.cellNum {K : ByteArray → Prop} (S : SesF o k h p st) (hk : K (bs st.num)) : ldS h (p.a.add 7) K := by
  obtain ⟨ip, ic, tp, tc, os, _⟩ := S.ex
  exact ldS_mk (os.cells.at (j := 7) rfl) hk
theorem answer_c [Gh] {ob : Addr} {evs : List Ev} (S : SesF o k h p st) (A : OutF o k h ob evs) (i : Option Nm) (number : Nm) {x : Value} (hx : itV i = [x]) {Q : Value → Heap → Prop}
    (hk : ∀ h' st', Fr (fun x => x = p.a.block) h h' → SesF o k h' p st' → OutF o k h' ob evs →
      st' = (match i with | none => st | some v => { st with im := st.im || (decide (v = kDATA) && decide (number = k354)), op := st.op || (decide (v = kTLS) && decide (number = k220)) }) → Q (.tuple #[]) h') :
    CallT Tryd.prog fn_smtp_Session_answer #[.pointer (some p.a), x, .string (bs number)] h Q := by
  apply smtp_Session_answer_s
  unfold smtp_Session_answer_v
  cases i with
  | none =>
    cases hx
    refine ta_no (i := Tryd.t97) (z := .agg #[.string (bs [])]) Tryd.underlying97 (by intro ms hms; cases hms) (by decide) (by kernel_rfl) (by kernel_rfl) ⟨_, _, rfl, ?_⟩
    rw [if_neg Bool.false_ne_true]
    refine ta_yes Tryd.underlying91 (by intro ms hms; cases hms) ⟨_, rfl, ?_⟩
    rw [if_pos rfl]
    refine al_mk (vs := []) fun t7 h8 f8 e8 o8 => ?_
    exact hk h8 st (f8.mono fun _ h => h.elim) (S.fr f8 (fun _ _ h => h.elim) (Old.refl _ _)) (A.fr f8 (fun _ _ h => h.elim) (Old.refl _ _)) rfl
  | some v =>
    cases hx
    refine ta_yes Tryd.underlying97 (by intro ms hms; cases hms) ⟨_, _, rfl, ?_⟩
    rw [if_pos rfl]
    refine al_mk (vs := [.string (bs [])]) fun t6 h2 f2 e2 o2 => ?_
    refine stN_own o2 (ws := [.string (bs v)]) (by rfl) (by rfl) fun h3 f3 s3 o3 => nn_mk ?_
    have F3 : Fr (fun _ => False) h h3 := f2.tr f3 fun b hb hi => by omega
    have S3 := S.fr F3 (fun _ _ h => h.elim) (Old.refl _ _)
    have A3 := A.fr F3 (fun _ _ h => h.elim) (Old.refl _ _)
    have lp := S.lt
    have z2 := f2.size
    have b1 : ∀ {h4 : Heap} {sx : PS}, Fr (fun x => x = p.a.block) h h4 → Own h4 t6 [.string (bs v)] T_smtp_command → SesF o k h4 p sx → OutF o k h4 ob evs → sx = { st with im := st.im || (decide (v = kDATA) && decide (number = k354)) } → smtp_Session_answer_b1 (some p.a) (bs number) t6 Q h4 := fun {h4 sx} f4 o4 S4 A4 e4 => by
      unfold smtp_Session_answer_b1
      have fin : ∀ b : Bool, b = (st.op || (decide (v = kTLS) && decide (number = k220))) → st1 h4 (p.a.add 5) (.bool b) fun h5 => Q (.tuple #[]) h5 := fun b hb => by
        refine S4.set1 A4 { sx with op := b } 5 (.bool b) (by omega) rfl rfl rfl rfl rfl (fun _ _ _ _ _ _ => rfl) fun h5 f5 S5 A5 => ?_
        exact hk h5 _ (f4.trans f5) S5 A5 (by rw [hb, e4])
      have hop : sx.op = st.op := by rw [e4]
      refine nn_mk (S4.cellB.2.1 (ifB (fun e => ?_) fun e => ?_))
      · refine nn_mk (fin true ?_)
        rw [hop] at e; rw [e]; rfl
      · rw [hop] at e
        rw [e, Bool.false_or] at fin
        refine ldS_mk (o4.cells.at0 rfl) (ifS (m := kTLS) (fun ev => ?_) fun ev => ?_)
        · rw [decide_eq_true ev, Bool.true_and] at fin
          refine nn_mk (fin _ ?_)
          have e1 : (⟨#[50, 50, 48]⟩ : ByteArray) = bs k220 := rfl
          rw [e1, bs_toList, bs_toList, Bool.eq_iff_iff, beq_iff_eq, decide_eq_true_iff]
        · rw [decide_eq_false ev, Bool.false_and] at fin
          exact nn_mk (fin false rfl)
    have go : ∀ b : Bool, b = (st.im || (decide (v = kDATA) && decide (number = k354))) → st1 h3 (p.a.add 6) (.bool b) fun h5 => smtp_Session_answer_b1 (some p.a) (bs number) t6 Q h5 := fun b hb => by
      refine S3.set1 A3 { st with im := b } 6 (.bool b) (by omega) rfl rfl rfl rfl rfl (fun _ _ _ _ _ _ => rfl) fun h5 f5 S5 A5 => ?_
      exact b1 ((F3.mono fun _ h => h.elim).trans f5) (o3.fr f5 (by omega)) S5 A5 (by rw [hb])
    refine S3.cellB.2.2 (ifB (fun e => ?_) fun e => ?_)
    · refine nn_mk (go true ?_)
      rw [e]; rfl
    · rw [e, Bool.false_or] at go
      refine ldS_mk (o3.cells.at0 rfl) (ifS (m := kDATA) (fun ev => ?_) fun ev => ?_)
      · rw [decide_eq_true ev, Bool.true_and] at go
        refine nn_mk (go _ ?_)
        have e1 : (⟨#[51, 53, 52]⟩ : ByteArray) = bs k354 := rfl
        rw [e1, bs_toList, bs_toList, Bool.eq_iff_iff, beq_iff_eq, decide_eq_true_iff]
      · rw [decide_eq_false ev, Bool.false_and] at go
        exact nn_mk (go false rfl)
def tw (l : List Nm) : Nat := (l.map fun x => x.length + 1).sum
theorem tw_append (a b : List Nm) : tw (a ++ b) = tw a + tw b := by unfold tw; rw [List.map_append, List.sum_append]
theorem tw_one (x : Nm) : tw [x] = x.length + 1 := by simp [tw]
theorem tw_len : ∀ l : List Nm, l.length ≤ tw l
  | [] => Nat.zero_le _
  | x :: l => by have := tw_len l; unfold tw at *; rw [List.map_cons, List.sum_cons, List.length_cons]; omega
theorem joinL_le : ∀ l : List Nm, (joinL l).length ≤ tw l
  | [] => Nat.zero_le _
  | [x] => by unfold joinL; rw [Lib.join_one, tw_one]; omega
  | x :: y :: l => by
    have ih := joinL_le (y :: l)
    have e : joinL (x :: y :: l) = x ++ [32] ++ joinL (y :: l) := by
      unfold joinL Lib.join
      simp [List.intercalate, List.intersperse]
    rw [e, show tw (x :: y :: l) = x.length + 1 + tw (y :: l) by unfold tw; rw [List.map_cons, List.sum_cons]]
    simp only [List.length_append, List.length_singleton]; omega
theorem SesF.addTx [Gh] {ob : Addr} {evs : List Ev} (S : SesF o k h p st) (A : OutF o k h ob evs) (t : Nm) (hl : st.tx.length ≤ 2 ^ 27) {T : TypeId} {b : Addr} (ow : Own h b (strV t) T) {K : Heap → Prop}
    {q : Option Addr} {n c : Nat} (hc : hcell h (p.a.add 8) = some (.slice q n c)) (hk : ∀ o' h', Old h o o' → Fr (fun x => o x = k + 1 ∨ o x = k + 3) h h' → SesF o' k h' p { st with tx := st.tx ++ [t] } → OutF o' k h' ob evs → K h') :
    bltV Tryd.prog .append #[T_sl_string, T_sl_string] T_sl_string #[false, false] #[.slice q n c, .slice (some b) 1 1] h fun v h4 => ∃ t36a : Option Addr, ∃ t36n : Nat, ∃ t36c : Nat, v = .slice t36a t36n t36c ∧ nn (some p.a) fun t37 => st1 h4 (Addr.add t37 8) (.slice t36a t36n t36c) K := by
  obtain ⟨ip, ic, tp, tc, os, I, hi, T, ht, C, D⟩ := S.ex
  have tg := S.tag
  have he := hc.symm.trans (os.cells.at (j := 8) rfl)
  simp only [Option.some.injEq, Value.slice.injEq] at he
  obtain ⟨rfl, rfl, rfl⟩ := he
  have lt := os.lt
  refine appSt T ow (by omega) fun p2 c2 h2 I2 f2 hn2 => ⟨_, _, _, rfl, ?_⟩
  have z2 := f2.size
  have ho : Old h o (upT o h.size (k + 3)) := Old.up (Nat.le_refl _)
  have os2 := os.fr f2 fun hx => by have := ht _ hx; omega
  have new : ∀ x, InA p2 x → upT o h.size (k + 3) x = k + 3 := fun x hx => by
    rcases hn2 x hx with h | h
    · rw [upT_lt (T.lt h)]; exact ht x h
    · exact upT_ge h
  refine nn_mk (st1_own os2 8 (by simp) rfl fun h3 f3 s3 os3 => ?_)
  have f23 : Fr (fun x => o x = k + 1 ∨ o x = k + 3) h h3 := (f2.mono fun x hx => .inr (ht x hx)).trans (f3.mono fun x hx => .inl (by subst hx; exact tg))
  refine hk (upT o h.size (k + 3)) h3 ho f23 ⟨⟨ip, ic, p2, c2, os3, I.fr f23 fun x hx hb => ?_, fun x hx => ?_, I2.fr f3 fun x hx hb => ?_, new, C.fr f23 (fun x hx hr => by omega) ho, D.fr f23 (fun x hx hr => by omega) ho⟩, ?_⟩ (A.fr f23 (fun x hx hr => by omega) ho)
  · have := hi x hx; omega
  · rw [upT_lt (I.lt hx)]; exact hi x hx
  · subst hb
    have := new _ hx
    rw [upT_lt lt] at this
    omega
  · rw [upT_lt lt]; exact tg
/-- The texts of a reply are forgotten. -/
theorem SesF.noTx [Gh] {ob : Addr} {evs : List Ev} (S : SesF o k h p st) (A : OutF o k h ob evs) {K : Heap → Prop} (hk : ∀ h', Fr (fun x => x = p.a.block) h h' → SesF o k h' p { st with tx := [] } → OutF o k h' ob evs → K h') : st1 h (p.a.add 8) (.slice none 0 0) K := by
  obtain ⟨ip, ic, tp, tc, os, I, hi, T, ht, C, D⟩ := S.ex
  have tg := S.tag
  refine st1_own os 8 (by simp) rfl fun h3 f3 s3 os3 => ?_
  have f : Fr (fun x => o x = k + 1) h h3 := f3.mono fun x hx => by subst hx; exact tg
  exact hk h3 f3 ⟨⟨ip, ic, none, 0, os3, I.fr f fun x hx hb => by have := hi x hx; omega, hi, Row.nil, fun x hx => (notInA hx).elim, C.fr f (fun x hx hr => by omega) (Old.refl _ _), D.fr f (fun x hx hr => by omega) (Old.refl _ _)⟩, tg⟩ (A.fr f (fun x hx hr => by omega) (Old.refl _ _))
/-- The first item is left behind. -/
theorem SesF.popIt [Gh] {ob : Addr} {evs : List Ev} (S : SesF o k h p st) (A : OutF o k h ob evs) {i : Option Nm} {r : List (Option Nm)} (hit : st.items = i :: r) {K : Heap → Prop}
    (hk : ∀ h', Fr (fun x => x = p.a.block) h h' → SesF o k h' p { st with items := r } → OutF o k h' ob evs → K h') :
    nn (some p.a) fun t122 => ldL h (Addr.add t122 3) fun t124a t124n t124c => sliceSl 1 t124a t124n t124c (some (1 : Int)) none none fun t125a t125n t125c => nn (some p.a) fun t126 => st1 h (Addr.add t126 3) (.slice t125a t125n t125c) K := by
  obtain ⟨ip, ic, tp, tc, os, I, hi, T, ht, C, D⟩ := S.ex
  have tg := S.tag
  rw [hit] at os I
  refine nn_mk (ldL_mk (os.cells.at (j := 3) rfl) (I.pop itV_len (by omega) fun p2 c2 hp2 I2 => nn_mk ?_))
  refine st1_own os 3 (by simp) rfl fun h3 f3 s3 os3 => ?_
  have f : Fr (fun x => o x = k + 1) h h3 := f3.mono fun x hx => by subst hx; exact tg
  exact hk h3 f3 ⟨⟨p2, c2, tp, tc, os3, I2.fr f fun x hx hb => by have := hi x (hp2 x hx); omega, fun x hx => hi x (hp2 x hx), T.fr f fun x hx hb => by have := ht x hx; omega, ht, C.fr f (fun x hx hr => by omega) (Old.refl _ _), D.fr f (fun x hx hr => by omega) (Old.refl _ _)⟩, tg⟩ (A.fr f (fun x hx hr => by omega) (Old.refl _ _))
theorem digI (b : UInt8) : digitB b = decide (48 ≤ byteI b ∧ byteI b ≤ 57) := by unfold digitB byteI; rw [decide_eq_decide]; omega
theorem server_b4 [Gh] {ob : Addr} {evs : List Ev} (S : SesF o k h p st) (A : OutF o k h ob evs) (number rest : Nm) (hr : rest.length ≤ 2 ^ 26) (htx : tw st.tx ≤ 2 ^ 26) (hev : evs.length ≤ 2 ^ 26) {Q : Value → Heap → Prop}
    (hm : moreR rest = true → ∀ o' h', Old h o o' → Fr (SR o k) h h' → SesF o' k h' p { st with num := number, tx := st.tx ++ [rest.drop 1] } → OutF o' k h' ob evs → Q (.bool true) h')
    (hn : moreR rest = false → ∀ o' h' st', Old h o o' → Fr (SR o k) h h' → SesF o' k h' p st' → OutF o' k h' ob (evs ++ [⟨2, 2, number, joinL (st.tx ++ [rest.drop 1])⟩]) → st' = (if st.gr = false then { st with num := number, tx := [], gr := true } else answerL { st with num := number, tx := [] } number) → Q (.bool true) h') :
    smtp_Session_server_b4 (some p.a) (.func (.func fn_smtp_Session_Feed_1) #[] #[.pointer (some ob)]) (bs number) (bs rest) (moreR rest) Q h := by
  unfold smtp_Session_server_b4
  have tg := S.tag
  have lp := S.lt
  refine nn_mk (S.set1 A { st with num := number } 7 (.string (bs number)) (by omega) rfl rfl rfl rfl rfl (fun _ _ _ _ _ _ => rfl) fun h1 f1 S1 A1 => nn_mk ?_)
  have z1 := f1.size
  refine S1.cellTx fun q c hc T1 => ?_
  rw [bs_size]
  have hmin : (if ((rest.length : Nat) : Int) < (1 : Int) then ((rest.length : Nat) : Int) else (1 : Int)) = ((min 1 rest.length : Nat) : Int) := by split <;> omega
  rw [hmin]
  refine slF rest (min 1 rest.length) rfl (by omega) ?_
  have hd : rest.drop (min 1 rest.length) = rest.drop 1 := by
    by_cases h1 : 1 ≤ rest.length
    · rw [Nat.min_eq_left h1]
    · rw [Nat.min_eq_right (by omega), List.drop_length, List.drop_eq_nil_of_le (by omega)]
  rw [hd]
  refine al_mk (vs := strV (rest.drop 1)) fun t81 h2 f2 e2 o2 => ?_
  have z2 := f2.size
  have S2 := S1.fr f2 (fun _ _ h => h.elim) (Old.refl _ _)
  have A2 := A1.fr f2 (fun _ _ h => h.elim) (Old.refl _ _)
  refine ⟨ldL_ (f2.hcell hc id), ?_⟩
  have htl := tw_len st.tx
  refine S2.addTx A2 (rest.drop 1) (by show st.tx.length ≤ _; omega) o2 (f2.hcell hc id) fun o4 h4 ho4 f4 S4 A4 => ?_
  have z4 := f4.size
  have F4 : Fr (SR o k) h h4 := ((f1.mono (S' := SR o k) fun x hx => by subst hx; unfold SR; omega).tr f2 fun _ _ h => h.elim).tr f4 fun x hx hr => by unfold SR; omega
  have O4 : Old h o o4 := fun x hx => ho4 x (by omega)
  refine ifB (fun e => ?_) fun e => ?_
  · exact hm e o4 h4 O4 F4 S4 A4
  have hn := hn e
  refine nn_mk (S4.cellTx fun q5 c5 hc5 T5 => ?_)
  have hjl := joinL_le (st.tx ++ [rest.drop 1])
  rw [tw_append, tw_one, List.length_drop] at hjl
  refine Join_c T5 (by simp) (by show (st.tx ++ [rest.drop 1]).length ≤ _; rw [List.length_append, List.length_singleton]; omega) (by show (joinL (st.tx ++ [rest.drop 1])).length ≤ _; omega) fun h5 f5 => ⟨_, rfl, ?_⟩
  have z5 := f5.size
  have S5 := S4.fr f5 (fun _ _ h => h.elim) (Old.refl _ _)
  have A5 := A4.fr f5 (fun _ _ h => h.elim) (Old.refl _ _)
  refine addV_c A5 ⟨2, 2, number, joinL (st.tx ++ [rest.drop 1])⟩ (by omega) fun o6 h6 ho6 f6 A6 => ⟨rfl, nn_mk ?_⟩
  have z6 := f6.size
  have S6 := S5.fr f6 (fun x hx hr => by omega) ho6
  have O6 : Old h o o6 := fun x hx => by rw [ho6 x (by omega), O4 x hx]
  have F6 : Fr (SR o k) h h6 := (F4.tr f5 fun _ _ h => h.elim).tr f6 fun x hx hr => by rw [O4 x hx] at hr; unfold SR; omega
  have tg6 := S6.tag
  refine S6.noTx A6 fun h7 f7 S7 A7 => nn_mk ?_
  have z7 := f7.size
  have F7 : Fr (SR o k) h h7 := F6.tr f7 fun x hx hr => by subst hr; unfold SR; omega
  have e7 : ({ { ({ st with num := number } : PS) with tx := st.tx ++ [rest.drop 1] } with tx := [] } : PS) = { st with num := number, tx := [] } := rfl
  have S7 : SesF o6 k h7 p { st with num := number, tx := [] } := S7
  refine S7.cellB.1 (ifN (fun eg => ?_) fun eg => ?_)
  · have eg : st.gr = false := eg
    rw [if_pos eg] at hn
    refine nn_mk (S7.set1 A7 { st with num := number, tx := [], gr := true } 4 (.bool true) (by omega) rfl rfl rfl rfl rfl (fun _ _ _ _ _ _ => rfl) fun h8 f8 S8 A8 => ?_)
    exact hn o6 h8 _ O6 (F7.tr f8 fun x hx hr => by subst hr; unfold SR; omega) S8 A8 rfl
  · have eg : st.gr = true := eg
    rw [if_neg (by rw [eg]; decide)] at hn
    refine nn_mk (S7.cellIt fun q n c hc => ?_)
    obtain ⟨ip, ic, tp, tc, os, I, hi, T, ht, C, D⟩ := S7.ex
    have he := hc.symm.trans (os.cells.at (j := 3) rfl)
    simp only [Option.some.injEq, Value.slice.injEq] at he
    obtain ⟨rfl, rfl, rfl⟩ := he
    have hans : ∀ l, st.items = l → answerL { st with num := number, tx := [] } number = answerL { st with num := number, tx := [], items := l } number := fun l hl => by rw [← hl]
    cases hit : st.items with
    | nil =>
      refine ifD (fun h => absurd h (by decide)) fun _ => ?_
      refine hn o6 h7 _ O6 F7 S7 A7 ?_
      unfold answerL
      dsimp only
      rw [hit]
    | cons i r =>
      have I' : Que 1 itV h7 q c (i :: r) := by rw [← hit]; exact I
      have hc : hcell h7 (p.a.add 3) = some (.slice q (i :: r).length c) := by rw [← hit]; exact hc
      refine ifD (fun _ => ?_) fun h => absurd h (by rw [List.length_cons]; omega)
      refine nn_mk (ldL_mk hc ?_)
      obtain ⟨x, hx⟩ := itV_one i
      refine I'.idx itV_len (by omega) 0 rfl (by simp) fun ad ci => ?_
      have ci : Cells h7 (ad.add (0 * 1)) (itV i) := ci
      rw [hx] at ci
      refine ldV_mk (ci.at0 rfl) ?_
      refine answer_c S7 A7 i number hx fun h9 st9 f9 S9 A9 e9 => ⟨rfl, ?_⟩
      have F9 : Fr (SR o k) h h9 := F7.tr f9 fun x hx hr => by subst hr; unfold SR; omega
      have hit9 : st9.items = i :: r := by rw [e9]; cases i <;> exact hit
      refine S9.popIt A9 hit9 fun h10 f10 S10 A10 => ?_
      refine hn o6 h10 _ O6 (F9.tr f10 fun x hx hr => by subst hr; unfold SR; omega) S10 A10 ?_
      unfold answerL
      dsimp only
      rw [hit, e9]
      cases i <;> rfl
end
end Go.Proofs.YtdpimhlppflidaaDoor
