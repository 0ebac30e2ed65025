/-
  The program's session: what can be read; a line of the client.
-/
import Derived.Test.YtdpimhlppflidaaDoorSmD
namespace Go.Proofs.YtdpimhlppflidaaDoor
set_option linter.unusedSimpArgs false
set_option linter.unusedVariables false
set_option maxRecDepth 20000
open Go
open Go.IntKind (wrap)
theorem itV_one (i : Option Nm) : ∃ x, itV i = [x] := by cases i <;> exact ⟨_, rfl⟩
section
variable {o : Tag} {k : Nat} {h : Heap} {p : SesA} {st : PS}
theorem readC_c [Gh] (S : SesF o k h p st) (hil : st.items.length ≤ 2 ^ 26) {Q : Value → Heap → Prop} (hk : ∀ h', Fr (fun _ => False) h h' → Q (.bool (canC st)) h') : CallT Tryd.prog fn_smtp_Session_readable #[.pointer (some p.a), .int .i64 1] h Q := by
  obtain ⟨ip, ic, tp, tc, ow, I, hi, T, ht, C, D⟩ := S.ex
  obtain ⟨l, qp, qc, ow1, q, hq, sp⟩ := C.ex
  have cc := ow.cells
  have c1 := ow1.cells
  apply smtp_Session_readable_s
  unfold smtp_Session_readable_v
  unfold canC at hk
  refine nn_mk (idxA_mk 1 rfl (by omega) (ldP_mk (cc.at (j := 1) rfl) (nn_mk (ldL_mk (c1.at (j := 1) rfl) ?_))))
  refine ifE (fun e => ?_) fun e => ?_
  · have : st.c.q = [] := List.length_eq_zero_iff.1 (by omega)
    rw [this] at hk; exact hk h (Fr.refl _ _)
  have hne : st.c.q ≠ [] := fun h => e (by rw [h]; rfl)
  rw [decide_eq_true hne, Bool.true_and] at hk
  refine nn_mk (ldB_mk (c1.at (j := 2) rfl) (ifB (fun e1 => ?_) fun e1 => ?_))
  · rw [e1] at hk; exact hk h (Fr.refl _ _)
  rw [e1] at hk
  refine nn_mk (ldB_mk (cc.at (j := 5) rfl) (ifB (fun e2 => ?_) fun e2 => ?_))
  · rw [e2] at hk; exact hk h (Fr.refl _ _)
  rw [e2] at hk
  rw [if_pos (by rfl)]
  have hk : ∀ h', Fr (fun _ => False) h h' → Q (.bool (lastOk st.items)) h' := hk
  refine nn_mk (ldL_mk (cc.at (j := 3) rfl) (ifE (fun e3 => ?_) fun e3 => ?_))
  · have : st.items = [] := List.length_eq_zero_iff.1 (by omega)
    rw [this] at hk; exact hk h (Fr.refl _ _)
  have hpos : 0 < st.items.length := by omega
  refine nn_mk (ldL_mk (cc.at (j := 3) rfl) (nn_mk (ldL_mk (cc.at (j := 3) rfl) ?_)))
  rw [wr (by omega) (by omega)]
  obtain ⟨ad, had, ci⟩ := I.cellsAt itV_len (by omega) (st.items.length - 1) (by omega)
  obtain ⟨x, hx⟩ := itV_one (st.items[st.items.length - 1]'(by omega))
  rw [hx] at ci
  refine idxA_mk (st.items.length - 1) (by omega) (by omega) ?_
  rw [had]
  have en : ((st.items.length : Nat) : Int) - 1 = ((st.items.length - 1 : Nat) : Int) := by omega
  rw [en]
  refine nn_mk (ldV_mk (ci.at0 rfl) (openI_c _ (fun h1 f1 => ⟨_, rfl, ?_⟩) hx.symm))
  have hg : st.items.getLast? = some (st.items[st.items.length - 1]'(by omega)) := by rw [List.getLast?_eq_getElem?, List.getElem?_eq_getElem (by omega)]
  have hk := hk h1 f1
  unfold lastOk at hk
  rw [hg] at hk
  exact hk
theorem readS_c [Gh] (S : SesF o k h p st) {Q : Value → Heap → Prop} (hk : ∀ h', Fr (fun _ => False) h h' → Q (.bool (canS st)) h') : CallT Tryd.prog fn_smtp_Session_readable #[.pointer (some p.a), .int .i64 2] h Q := by
  obtain ⟨ip, ic, tp, tc, ow, I, hi, T, ht, C, D⟩ := S.ex
  obtain ⟨l, qp, qc, ow1, q, hq, sp⟩ := D.ex
  have cc := ow.cells
  have c1 := ow1.cells
  apply smtp_Session_readable_s
  unfold smtp_Session_readable_v
  unfold canS at hk
  refine nn_mk (idxA_mk 2 rfl (by omega) (ldP_mk (cc.at (j := 2) rfl) (nn_mk (ldL_mk (c1.at (j := 1) rfl) ?_))))
  refine ifE (fun e => ?_) fun e => ?_
  · have : st.s.q = [] := List.length_eq_zero_iff.1 (by omega)
    rw [this] at hk; exact hk h (Fr.refl _ _)
  have hne : st.s.q ≠ [] := fun h => e (by rw [h]; rfl)
  rw [decide_eq_true hne, Bool.true_and] at hk
  refine nn_mk (ldB_mk (c1.at (j := 2) rfl) (ifB (fun e1 => ?_) fun e1 => ?_))
  · rw [e1] at hk; exact hk h (Fr.refl _ _)
  rw [e1] at hk
  refine nn_mk (ldB_mk (cc.at (j := 5) rfl) (ifB (fun e2 => ?_) fun e2 => ?_))
  · rw [e2] at hk; exact hk h (Fr.refl _ _)
  rw [e2] at hk
  rw [if_neg (by decide)]
  have hk : ∀ h', Fr (fun _ => False) h h' → Q (.bool (decide (st.tx ≠ []) || !st.gr || decide (st.items ≠ []))) h' := hk
  refine nn_mk (ldL_mk (cc.at (j := 8) rfl) (ifD (fun e3 => ?_) fun e3 => ?_))
  · have : st.tx ≠ [] := fun h => by rw [h] at e3; exact absurd e3 (by decide)
    rw [decide_eq_true this] at hk; exact hk h (Fr.refl _ _)
  have : ¬ st.tx ≠ [] := fun h => e3 (by have := List.length_pos_iff.2 h; omega)
  rw [decide_eq_false this, Bool.false_or] at hk
  refine nn_mk (ldB_mk (cc.at (j := 4) rfl) (ifN (fun e4 => ?_) fun e4 => ?_))
  · rw [e4] at hk; exact hk h (Fr.refl _ _)
  rw [e4] at hk
  refine nn_mk (ldL_mk (cc.at (j := 3) rfl) ?_)
  refine Qeq (hk h (Fr.refl _ _)) ?_
  show Value.bool (false || decide (st.items ≠ [])) = _
  rw [Bool.false_or]
  congr 1
  rw [decide_eq_decide]
  constructor
  · intro h; have := List.length_pos_iff.2 h; omega
  · intro h hh; rw [hh] at h; exact absurd h (by decide)
/-! ### A line of the client -/
theorem or32 (b : UInt8) : wrap .u8 (BitVec.toNat (BitVec.ofInt (IntKind.bits .u8) (byteI b) ||| BitVec.ofInt (IntKind.bits .u8) 32) : Int) = (((b ||| 32).toNat : Nat) : Int) := by
  have e : IntKind.bits .u8 = 8 := rfl
  have e2 : (32 : Int) = ((32 : Nat) : Int) := rfl
  have h1 : (b ||| 32).toNat = b.toNat ||| 32 := by rw [UInt8.toNat_or]; rfl
  have hlt := (b ||| 32).toNat_lt
  unfold byteI
  rw [e, e2, BitVec.ofInt_natCast, BitVec.ofInt_natCast, BitVec.toNat_or, BitVec.toNat_ofNat, BitVec.toNat_ofNat, Nat.mod_eq_of_lt (a := b.toNat) b.toNat_lt, Nat.mod_eq_of_lt (a := 32) (by omega), ← h1]
  exact wr8 (by omega) (by omega)
theorem alpha_or : ∀ n : Fin 256, (97 ≤ (n.val ||| 32) ∧ (n.val ||| 32) ≤ 122) ↔ (65 ≤ n.val ∧ n.val ≤ 90 ∨ 97 ≤ n.val ∧ n.val ≤ 122) := by decide +kernel
theorem alphaB_or (b : UInt8) : alphaB b = decide (97 ≤ (b ||| 32).toNat ∧ (b ||| 32).toNat ≤ 122) := by
  unfold alphaB
  have h1 : (b ||| 32).toNat = b.toNat ||| 32 := by rw [UInt8.toNat_or]; rfl
  have := alpha_or ⟨b.toNat, b.toNat_lt⟩
  rw [h1, decide_eq_decide]
  exact this.symm
theorem SesF.setIt [Gh] {st' : PS} {ob : Addr} {evs : List Ev} (S : SesF o k h p st) (A : OutF o k h ob evs) (i : Option Nm) (hil : st.items.length ≤ 2 ^ 26) {T : TypeId} {b : Addr} (ow : Own h b (itV i) T) {K : Heap → Prop}
    {ipp : Option Addr} {n c : Nat} (hc : hcell h (p.a.add 3) = some (.slice ipp n c)) (hk : ∀ o' h', Old h o o' → Fr (fun x => o x = k + 1 ∨ o x = k + 2) h h' → SesF o' k h' p { st with items := st.items ++ [i] } → OutF o' k h' ob evs → K h') :
    bltV Tryd.prog .append #[T_sl_smtp_item, T_sl_smtp_item] T_sl_smtp_item #[false, false] #[.slice ipp n c, .slice (some b) 1 1] h fun v h4 => ∃ t36a : Option Addr, ∃ t36n : Nat, ∃ t36c : Nat, v = .slice t36a t36n t36c ∧ nn (some p.a) fun t37 => st1 h4 (Addr.add t37 3) (.slice t36a t36n t36c) K := by
  obtain ⟨ip, ic, tp, tc, os, I, hi, T, ht, C, D⟩ := S.ex
  have tg := S.tag
  have he := hc.symm.trans (os.cells.at (j := 3) rfl)
  simp only [Option.some.injEq, Value.slice.injEq] at he
  obtain ⟨rfl, rfl, rfl⟩ := he
  have lt := os.lt
  refine appIt I ow (by omega) fun p2 c2 h2 I2 f2 hn2 => ⟨_, _, _, rfl, ?_⟩
  have z2 := f2.size
  have ho : Old h o (upT o h.size (k + 2)) := Old.up (Nat.le_refl _)
  have os2 := os.fr f2 fun hx => by have := hi _ hx; omega
  have new : ∀ x, InA p2 x → upT o h.size (k + 2) x = k + 2 := fun x hx => by
    rcases hn2 x hx with h | h
    · rw [upT_lt (I.lt h)]; exact hi x h
    · exact upT_ge h
  refine nn_mk (st1_own os2 3 (by simp) rfl fun h3 f3 s3 os3 => ?_)
  have f23 : Fr (fun x => o x = k + 1 ∨ o x = k + 2) h h3 := (f2.mono fun x hx => .inr (hi x hx)).trans (f3.mono fun x hx => .inl (by subst hx; exact tg))
  refine hk (upT o h.size (k + 2)) h3 ho f23 ⟨⟨p2, c2, tp, tc, os3, I2.fr f3 fun x hx hb => ?_, new, T.fr f23 fun x hx hb => ?_, fun x hx => ?_, C.fr f23 (fun x hx hr => by omega) ho, D.fr f23 (fun x hx hr => by omega) ho⟩, ?_⟩ (A.fr f23 (fun x hx hr => by omega) ho)
  · subst hb
    have := new _ hx
    rw [upT_lt lt] at this
    omega
  · have := ht x hx; omega
  · rw [upT_lt (T.lt hx)]; exact ht x hx
  · rw [upT_lt lt]; exact tg
theorem SesF.setIm [Gh] {ob : Addr} {evs : List Ev} (S : SesF o k h p st) (A : OutF o k h ob evs) (b : Bool) {K : Heap → Prop} (hk : ∀ h', Fr (fun x => o x = k + 1) h h' → SesF o k h' p { st with im := b } → OutF o k h' ob evs → K h') : st1 h (p.a.add 6) (.bool b) K := by
  obtain ⟨ip, ic, tp, tc, os, I, hi, T, ht, C, D⟩ := S.ex
  have tg := S.tag
  refine st1_own os 6 (by simp) rfl fun h3 f3 s3 os3 => ?_
  have f : Fr (fun x => o x = k + 1) h h3 := f3.mono fun x hx => by subst hx; exact tg
  exact hk h3 f ⟨⟨ip, ic, tp, tc, os3, I.fr f fun x hx hb => by have := hi x hx; omega, hi, T.fr f fun x hx hb => by have := ht x hx; omega, ht, C.fr f (fun x hx hr => by omega) (Old.refl _ _), D.fr f (fun x hx hr => by omega) (Old.refl _ _)⟩, tg⟩ (A.fr f (fun x hx hr => by omega) (Old.refl _ _))
theorem SesF.cellIt {K : Option Addr → Nat → Nat → Prop} (S : SesF o k h p st) (hk : ∀ q n c, hcell h (p.a.add 3) = some (.slice q n c) → K q n c) : ldL h (p.a.add 3) K := by
  obtain ⟨ip, ic, tp, tc, os, _⟩ := S.ex
  have hc : hcell h (p.a.add 3) = some (.slice ip st.items.length ic) := os.cells.at (j := 3) rfl
  exact ldL_mk hc (hk _ _ _ hc)
theorem upL_ascii {l : Nm} (h : l.all alphaB = true) : ∀ b ∈ l, b.toNat < 128 := fun b hb => by
  have := List.all_eq_true.1 h b hb
  unfold alphaB at this
  rw [decide_eq_true_eq] at this
  omega
theorem all_bad {α : Type} {l : List α} {f : α → Bool} {i : Nat} (hi : i < l.length) (h : f l[i] = false) : l.all f = false := by
  rw [List.all_eq_false]; exact ⟨_, List.getElem_mem hi, by simp [h]⟩
theorem all_next {α : Type} {l : List α} {f : α → Bool} {i : Nat} (hi : i < l.length) (h : f l[i] = true) (h2 : (l.take i).all f = true) : (l.take (i + 1)).all f = true := by
  rw [show l.take (i + 1) = l.take i ++ [l[i]] by rw [List.take_append_getElem], List.all_append, h2]; simp [h]
/-- The frame of a session that works. -/
def SR (o : Tag) (k : Nat) (x : Nat) : Prop := k ≤ o x ∧ o x < k + 40
theorem client_c [Gh] {ob : Addr} {evs : List Ev} (S : SesF o k h p st) (A : OutF o k h ob evs) (s : Nm) (hs : s.length ≤ 2 ^ 26) (hil : st.items.length ≤ 2 ^ 26) (hev : evs.length ≤ 2 ^ 26) {Q : Value → Heap → Prop}
    (hk : ∀ o' h', Old h o o' → Fr (SR o k) h h' → SesF o' k h' p (clientL st s).1 → OutF o' k h' ob (evs ++ (clientL st s).2.1) → Q (.bool (clientL st s).2.2) h') :
    CallT Tryd.prog fn_smtp_Session_client #[.pointer (some p.a), .string (bs s), .func (.func fn_smtp_Session_Feed_1) #[] #[.pointer (some ob)]] h Q := by
  apply smtp_Session_client_s
  unfold smtp_Session_client_v
  have imc : ∀ {K : Bool → Prop}, K st.im → ldB h (p.a.add 6) K := fun hK => by
    obtain ⟨ip, ic, tp, tc, os, _⟩ := S.ex
    exact ldB_mk (os.cells.at (j := 6) rfl) hK
  unfold clientL at hk
  refine nn_mk (imc (ifB (fun e => ?_) fun e => ?_))
  · rw [if_pos e] at hk
    refine ifS (m := [46]) (fun e1 => ?_) fun e1 => ?_
    · rw [if_pos e1] at hk
      refine addV_c A ⟨4, 1, [], []⟩ (by omega) fun o1 h1 ho1 f1 A1 => ⟨rfl, nn_mk ?_⟩
      have S1 := S.fr f1 (fun x hx hr => by omega) ho1
      have z1 := f1.size
      refine S1.setIm A1 false fun h2 f2 S2 A2 => nn_mk ?_
      have z2 := f2.size
      refine S2.cellIt fun q n c hc => ?_
      refine al_mk (vs := itV none) fun t35 h3 f3 e3 o3 => ?_
      have z3 := f3.size
      have S3 := S2.fr f3 (fun _ _ h => h.elim) (Old.refl _ _)
      have A3 := A2.fr f3 (fun _ _ h => h.elim) (Old.refl _ _)
      refine S3.setIt (st' := st) A3 none hil o3 (f3.hcell hc id) fun o4 h4 ho4 f4 S4 A4 => ?_
      refine hk o4 h4 (fun x hx => by rw [ho4 x (by omega), ho1 x hx]) ?_ S4 A4
      refine (((f1.mono' fun x hx hr => ?_).tr f2 fun x hx hr => ?_).tr f3 fun _ _ h => h.elim).tr f4 fun x hx hr => ?_
      · unfold SR; omega
      · rw [ho1 x hx] at hr; unfold SR; omega
      · rw [ho1 x hx] at hr; unfold SR; omega
    · rw [if_neg e1] at hk
      refine TrimPrefix_c s ⟨_, rfl, ?_⟩
      refine addV_c A ⟨3, 1, [], undotL s⟩ (by omega) fun o1 h1 ho1 f1 A1 => ⟨rfl, ?_⟩
      exact hk o1 h1 ho1 (f1.mono' fun x hx hr => by unfold SR; omega) (S.fr f1 (fun x hx hr => by omega) ho1) A1
  · rw [if_neg (by rw [e]; decide)] at hk
    refine cut_c s (by omega) ⟨_, _, _, rfl, ?_⟩
    obtain ⟨hce, _⟩ := cut_eq s
    have hcl := congrArg List.length hce
    rw [List.length_append] at hcl
    unfold cmdL at hk
    generalize hv : (cutSp s).1 = v at *
    generalize ht : (cutSp s).2.1 = t at *
    have bad : (v = [] ∨ v.length > 16 ∨ v.all alphaB = false) → Q (.bool false) h := fun hb => by
      rw [if_pos hb] at hk
      exact hk o h (Old.refl _ _) (Fr.refl _ _) S (by simpa using A)
    refine ifS (m := []) (fun e1 => bad (.inl e1)) fun e1 => ?_
    rw [bs_size]
    refine ifD (fun e2 => bad (.inr (.inl (by omega)))) fun e2 => ?_
    refine LoopV.go (fun n st' h' => ∃ i : Nat, st' = (i : Int) ∧ i ≤ v.length ∧ n = v.length - i ∧ h' = h ∧ (v.take i).all alphaB = true) v.length ⟨0, rfl, by omega, rfl, rfl, by simp⟩ ?_
    rintro n - h1 ⟨i, rfl, hi, rfl, rfl, hall⟩ Kn hK
    unfold smtp_Session_client_l1
    refine ifD (fun e3 => ?_) fun e3 => ?_
    · have hlt : i < v.length := by omega
      refine ixS v i rfl hlt ?_
      rw [or32]
      refine ifD (fun e4 => bad (.inr (.inr (all_bad hlt ?_)))) fun e4 => ?_
      · rw [alphaB_or, decide_eq_false_iff_not]; omega
      refine ifD (fun e5 => bad (.inr (.inr (all_bad hlt ?_)))) fun e5 => ?_
      · rw [alphaB_or, decide_eq_false_iff_not]; omega
      rw [wr (by omega) (by omega)]
      refine hK (v.length - (i + 1)) _ _ (by omega) ⟨i + 1, rfl, hlt, rfl, rfl, all_next hlt ?_ hall⟩
      rw [alphaB_or, decide_eq_true_eq]; omega
    · rw [List.take_of_length_le (by omega)] at hall
      rw [if_neg (by rw [hall]; intro hb; rcases hb with hb | hb | hb; exact e1 hb; omega; cases hb)] at hk
      dsimp only at hk
      unfold smtp_Session_client_b2
      refine ToUpper_c v (by omega) (upL_ascii hall) fun h9 f9 => ⟨_, rfl, ?_⟩
      have S9 := S.fr f9 (fun _ _ h => h.elim) (Old.refl _ _)
      have A9 := A.fr f9 (fun _ _ h => h.elim) (Old.refl _ _)
      have z9 := f9.size
      refine addV_c A9 ⟨1, 1, upL v, t⟩ (by omega) fun o1 h10 ho1 f10 A10 => ⟨rfl, nn_mk ?_⟩
      have z10 := f10.size
      have S10 := S9.fr f10 (fun x hx hr => by omega) ho1
      refine S10.cellIt fun q n c hc => ?_
      refine al_mk (vs := itV (some (upL v))) fun t82 h11 f11 e11 o11 => ?_
      have z11 := f11.size
      have S11 := S10.fr f11 (fun _ _ h => h.elim) (Old.refl _ _)
      have A11 := A10.fr f11 (fun _ _ h => h.elim) (Old.refl _ _)
      refine S11.setIt (st' := st) A11 (some (upL v)) hil o11 (f11.hcell hc id) fun o4 h12 ho4 f12 S12 A12 => ?_
      refine hk o4 h12 (fun x hx => by rw [ho4 x (by omega), ho1 x (by omega)]) ?_ S12 A12
      refine (((f9.mono (S' := SR o k) fun _ h => h.elim).tr f10 fun x hx hr => ?_).tr f11 fun _ _ h => h.elim).tr f12 fun x hx hr => ?_
      · unfold SR; omega
      · rw [ho1 x (by omega)] at hr; unfold SR; omega
end
end Go.Proofs.YtdpimhlppflidaaDoor
