/-
  The reference's session: its memory; Reply, Command, can, read.
-/
import Derived.Test.YtdpimhlppflidaaDoorSmQ
namespace Go.Proofs.YtdpimhlppflidaaDoor
set_option linter.unusedSimpArgs false
set_option linter.unusedVariables false
set_option maxRecDepth 20000
open Go
open Go.IntKind (wrap)
theorem digits_c [Gh] (l : Nm) (hl : l.length ≤ 2 ^ 40) {h : Heap} {Q : Value → Heap → Prop} (hk : Q (.bool (l.all digitB)) h) : CallT Tryd.prog fn_ref30_digits #[.string (bs l)] h Q := by
  apply ref30_digits_s
  unfold ref30_digits_v
  refine LoopV.go (fun n st' h' => ∃ i : Nat, st' = (i : Int) ∧ i ≤ l.length ∧ n = l.length - i ∧ h' = h ∧ (l.take i).all digitB = true) l.length ⟨0, rfl, by omega, rfl, rfl, by simp⟩ ?_
  rintro n - h1 ⟨i, rfl, hi, rfl, rfl, hall⟩ Kn hK
  unfold ref30_digits_l1
  rw [bs_size]
  refine ifD (fun e3 => ?_) fun e3 => ?_
  · have hlt : i < l.length := by omega
    have bad : digitB l[i] = false → Q (.bool false) h1 := fun hb => by rw [all_bad hlt hb] at hk; exact hk
    refine ixS l i rfl hlt ?_
    refine ifD (fun e4 => bad ?_) fun e4 => ?_
    · rw [digI, decide_eq_false_iff_not]; omega
    refine ixS l i rfl hlt ?_
    refine ifD (fun e5 => bad ?_) fun e5 => ?_
    · rw [digI, decide_eq_false_iff_not]; omega
    rw [wr (by omega) (by omega)]
    refine hK (l.length - (i + 1)) _ _ (by omega) ⟨i + 1, rfl, by omega, rfl, rfl, all_next hlt ?_ hall⟩
    rw [digI, decide_eq_true_eq]; omega
  · rw [List.take_of_length_le (by omega)] at hall
    rw [hall] at hk; exact hk
theorem Reply_c [Gh] (s : Nm) (hs : s.length ≤ 2 ^ 30) {h : Heap} {Q : Value → Heap → Prop} (hk : Q (if badR s = true then .tuple #[.string (bs []), .string (bs []), .bool false, .bool false] else .tuple #[.string (bs (s.take 3)), .string (bs ((s.drop 3).drop 1)), .bool (moreR (s.drop 3)), .bool true]) h) :
    CallT Tryd.prog fn_ref30_Reply #[.string (bs s)] h Q := by
  apply ref30_Reply_s
  unfold ref30_Reply_v
  rw [bs_size]
  have bad : badR s = true → Q (.tuple #[.string (bs []), .string (bs []), .bool false, .bool false]) h := fun hb => by rw [if_pos hb] at hk; exact hk
  have hbad : badR s = true ↔ (s.length < 3 ∨ (s.take 3).all digitB = false) ∨ okRest (s.drop 3) = false := by
    unfold badR; simp only [Bool.or_eq_true, decide_eq_true_eq, Bool.not_eq_true']
  refine ifD (fun e => bad (hbad.2 (.inl (.inl (by omega))))) fun e => ?_
  refine slT s 3 rfl (by omega) ?_
  refine digits_c _ (by rw [List.length_take]; omega) ⟨_, rfl, ?_⟩
  refine ifN (fun e1 => bad (hbad.2 (.inl (.inr e1)))) fun e1 => ?_
  have good : okRest (s.drop 3) = true → Q (.tuple #[.string (bs (s.take 3)), .string (bs ((s.drop 3).drop 1)), .bool (moreR (s.drop 3)), .bool true]) h := fun ho => by
    rw [if_neg (fun h => by
      rcases hbad.1 h with (h | h) | h
      · omega
      · rw [e1] at h; cases h
      · rw [ho] at h; cases h)] at hk
    exact hk
  have b1 : okRest (s.drop 3) = true → ref30_Reply_b1 (bs s) Q h := fun ho => by
    have good := good ho
    unfold ref30_Reply_b1
    rw [bs_size]
    refine ifE (fun e2 => ?_) fun e2 => ?_
    · have h3 : s.length = 3 := by omega
      have d3 : s.drop 3 = [] := List.drop_eq_nil_of_le (by omega)
      rw [List.take_of_length_le (by omega), d3] at good
      exact good
    · refine slT s 3 rfl (by omega) (slF s 4 rfl (by omega) (ixS s 3 rfl (by omega) ?_))
      rw [List.drop_drop] at good
      have hd : s.drop 3 = s[3]'(by omega) :: s.drop 4 := List.drop_eq_getElem_cons (by omega)
      have em : (byteI s[3] == 45) = moreR (s.drop 3) := by
        rw [hd]
        unfold moreR
        dsimp only
        rw [Bool.eq_iff_iff, decide_eq_true_iff, beq_iff_eq]
        exact ⟨fun h => byteI_inj (by rw [h]; rfl), fun h => by rw [h]; rfl⟩
      rw [em]; exact good
  refine ifD (fun e2 => ?_) fun e2 => ?_
  · have hd : s.drop 3 = s[3]'(by omega) :: s.drop 4 := List.drop_eq_getElem_cons (by omega)
    have ho : okRest (s.drop 3) = decide (s[3]'(by omega) = 32 ∨ s[3]'(by omega) = 45) := by rw [hd]; rfl
    refine ixS s 3 rfl (by omega) (ifNe (fun e3 => ?_) fun e3 => b1 ?_)
    · refine ixS s 3 rfl (by omega) (ifNe (fun e4 => bad (hbad.2 (.inr ?_))) fun e4 => b1 ?_)
      · rw [ho, decide_eq_false_iff_not]
        rintro (h | h)
        · exact e3 (by rw [h]; rfl)
        · exact e4 (by rw [h]; rfl)
      · rw [ho, decide_eq_true_eq]; exact .inr (byteI_inj (by rw [e4]; rfl))
    · rw [ho, decide_eq_true_eq]; exact .inl (byteI_inj (by rw [e3]; rfl))
  · exact b1 (by rw [List.drop_eq_nil_of_le (by omega)]; rfl)
def upB (c : UInt8) : UInt8 := Lib.upperB c
theorem upL_snoc (l : Nm) (c : UInt8) : upL (l ++ [c]) = upL l ++ [upB c] := by unfold upL Lib.toUpperA upB; rw [List.map_append]; rfl
theorem upL_len (l : Nm) : (upL l).length = l.length := by unfold upL Lib.toUpperA; exact List.length_map ..
theorem up_alpha : ∀ n : Fin 256, (97 ≤ n.val ∧ n.val ≤ 122 → (Lib.upperB (UInt8.ofNat n.val)).toNat = n.val - 32) ∧ (65 ≤ n.val ∧ n.val ≤ 90 → (Lib.upperB (UInt8.ofNat n.val)).toNat = n.val) := by decide +kernel
theorem upB_byte (c : UInt8) : (97 ≤ c.toNat ∧ c.toNat ≤ 122 → (upB c).toNat = c.toNat - 32) ∧ (65 ≤ c.toNat ∧ c.toNat ≤ 90 → (upB c).toNat = c.toNat) := by
  have := up_alpha ⟨c.toNat, c.toNat_lt⟩
  have e : UInt8.ofNat c.toNat = c := UInt8.ofNat_toNat
  dsimp only at this
  rw [e] at this; exact this
theorem cut_no : ∀ s : Nm, ∀ b ∈ (cutSp s).1, b ≠ 32
  | [] => by intro b hb; cases hb
  | c :: s => by
    have ih := cut_no s
    unfold cutSp
    split
    · intro b hb; cases hb
    · intro b hb
      rcases List.mem_cons.1 hb with rfl | hb
      · assumption
      · exact ih b hb
theorem Command_c [Gh] (s : Nm) (hs : s.length ≤ 2 ^ 26) {h : Heap} {Q : Value → Heap → Prop} (hk : ∀ h', Fr (fun _ => False) h h' → Q (match cmdL s with | none => .tuple #[.string (bs []), .string (bs []), .bool false] | some (v, t) => .tuple #[.string (bs v), .string (bs t), .bool true]) h') :
    CallT Tryd.prog fn_ref30_Command #[.string (bs s)] h Q := by
  apply ref30_Command_s
  unfold ref30_Command_v
  obtain ⟨hce, hcn⟩ := cut_eq s
  have hno := cut_no s
  have hcmd : cmdL s = if (cutSp s).1 = [] ∨ (cutSp s).1.length > 16 ∨ (cutSp s).1.all alphaB = false then none else some (upL (cutSp s).1, (cutSp s).2.1) := rfl
  generalize (cutSp s).1 = v at *
  generalize (cutSp s).2.1 = t at *
  generalize (cutSp s).2.2 = f at *
  have hvt : ∀ i (hi : i < v.length), s[i]? = some v[i] := fun i hi => by
    conv => lhs; rw [hce]
    rw [List.getElem?_append_left hi, List.getElem?_eq_getElem hi]
  have hcl := congrArg List.length hce
  rw [List.length_append] at hcl
  have hsp : f = true → s[v.length]? = some 32 ∧ s.drop (v.length + 1) = t := fun hf => by
    rw [if_pos hf] at hce
    constructor
    · conv => lhs; rw [hce]
      rw [List.getElem?_append_right (Nat.le_refl _), Nat.sub_self]; rfl
    · conv => lhs; rw [hce]
      rw [List.drop_append, List.drop_eq_nil_of_le (by omega), show v.length + 1 - v.length = 1 by omega]; rfl
  have hse : f = false → s.length = v.length := fun hf => by rw [hf] at hcl; simpa using hcl
  have bad : ∀ {h' : Heap}, Fr (fun _ => False) h h' → (v = [] ∨ v.length > 16 ∨ v.all alphaB = false) → Q (.tuple #[.string (bs []), .string (bs []), .bool false]) h' := fun {h'} fr hb => by
    have := hk h' fr
    rw [hcmd, if_pos hb] at this; exact this
  refine LoopV.go (fun n st h' => ∃ i : Nat, st.2.2.2 = (i : Int) ∧ st.2.1 = (upL (v.take i)).length ∧ i ≤ v.length ∧ n = v.length - i ∧ Fr (fun _ => False) h h' ∧ Row 1 bV h' st.1 st.2.2.1 (upL (v.take i)) ∧ (∀ x, InA st.1 x → h.size ≤ x) ∧ (v.take i).all alphaB = true) v.length
    ⟨0, rfl, rfl, by omega, rfl, Fr.refl _ _, Row.nil, fun x hx => (notInA hx).elim, rfl⟩ ?_
  rintro n ⟨q, m, c, ti⟩ h1 ⟨i, hti, hm, hi, rfl, f1, R1, hq, hall⟩ Kn hK
  have hti : ti = (i : Int) := hti
  have hm : m = (upL (v.take i)).length := hm
  have R1 : Row 1 bV h1 q c (upL (v.take i)) := R1
  have hq : ∀ x, InA q x → h.size ≤ x := hq
  subst hti hm
  dsimp only
  unfold ref30_Command_l1
  rw [bs_size]
  have hul : (upL (v.take i)).length = i := by rw [upL_len, List.length_take]; omega
  -- the end
  have b3 : i = v.length → ref30_Command_b3 (bs s) q (upL (v.take i)).length c (i : Int) Q h1 := fun hiv => by
    unfold ref30_Command_b3
    rw [bs_size, hul]
    refine ifD (fun e => bad f1 (.inl (List.length_eq_zero_iff.1 (by omega)))) fun e => ?_
    refine ifD (fun e => bad f1 (.inr (.inl (by omega)))) fun e2 => ?_
    have hvall : v.all alphaB = true := by rw [hiv, List.take_length] at hall; exact hall
    have good := hk h1 f1
    rw [hcmd, if_neg (by rintro (h | h | h); rw [h] at hiv; simp at hiv; omega; omega; rw [hvall] at h; cases h)] at good
    have good : Q (.tuple #[.string (bs (upL v)), .string (bs t), .bool true]) h1 := good
    have hcv : ∀ {K : Value → Heap → Prop}, K (.string (bs (upL v))) h1 → convV Tryd.prog T_sl_uint8 T_string (.slice q i c) h1 K := fun {K} hK => by
      have R := R1
      rw [hiv, List.take_length] at R
      have := conv8 R hK
      rw [upL_len, ← hiv] at this; exact this
    refine ifD (fun e3 => ?_) fun e3 => ?_
    · have hf : f = true := by
        cases hh : f with
        | true => rfl
        | false => have := hse hh; omega
      rw [wr (by omega) (by omega)]
      refine slF s (i + 1) rfl (by omega) ?_
      rw [hiv, (hsp hf).2]
      rw [← hiv]
      exact hcv ⟨_, rfl, good⟩
    · have hf : f = false := by
        cases hh : f with
        | false => rfl
        | true => rw [hh] at hcl; simp at hcl; omega
      rw [hcn hf] at good
      exact hcv ⟨_, rfl, good⟩
  refine ifD (fun e => ?_) fun e => b3 (by omega)
  by_cases hiv : i < v.length
  · have hsl : i < s.length := by omega
    have hsi : s[i] = v[i] := by
      have := hvt i hiv
      rw [List.getElem?_eq_getElem hsl] at this; exact Option.some.inj this
    refine ixS s i rfl hsl ?_
    rw [hsi]
    refine ifNe (fun _ => ?_) fun e32 => absurd (byteI_inj (by rw [e32]; rfl)) (hno v[i] (List.getElem_mem hiv))
    refine ixS s i rfl hsl ?_
    rw [hsi]
    have hby := upB_byte v[i]
    have halp : alphaB v[i] = decide (65 ≤ byteI v[i] ∧ byteI v[i] ≤ 90 ∨ 97 ≤ byteI v[i] ∧ byteI v[i] ≤ 122) := by unfold alphaB byteI; rw [decide_eq_decide]; omega
    have bad2 : alphaB v[i] = false → Q (.tuple #[.string (bs []), .string (bs []), .bool false]) h1 := fun hb => bad f1 (.inr (.inr (all_bad hiv hb)))
    have htk : v.take (i + 1) = v.take i ++ [v[i]] := by rw [List.take_append_getElem]
    have hbl := byteI_le v[i]
    have b2 : ∀ x : Int, (alphaB v[i] = true → x = byteI (upB v[i])) → ((x < 65 ∨ x > 90) → alphaB v[i] = false) → (¬ (x < 65) → ¬ (x > 90) → alphaB v[i] = true) → ref30_Command_b2 (bs s) q (upL (v.take i)).length c (i : Int) x Q Kn h1 := fun x hx1 hx2 hx3 => by
      unfold ref30_Command_b2
      refine ifD (fun e4 => bad2 (hx2 (.inl e4))) fun e4 => ifD (fun e5 => bad2 (hx2 (.inr e5))) fun e5 => ?_
      have ha := hx3 e4 e5
      rw [hx1 ha]
      refine al_mk (vs := [.int .u8 (byteI (upB v[i]))]) fun t37 h2 f2 e2 o2 => ?_
      have z1 := f1.size
      have z2 := f2.size
      have S2 := (Row.of_own bV_len (L := [upB v[i]]) (show Own h2 t37 ([upB v[i]].flatMap bV) _ from o2)).src bV_len (by omega)
      refine (Row.fr0 f2 R1).appL el_u8 Tryd.underlying39 (by intro k e; cases e) (by kernel_rfl) (by decide +kernel) bV_len (fun _ => rfl) (M := [upB v[i]]) S2 (by rw [hul]; simp; omega) fun p' cap' h3 R3 f3 hn3 => ⟨_, _, _, rfl, ?_⟩
      rw [wr (by omega) (by omega)]
      refine hK (v.length - (i + 1)) _ _ (by omega) ⟨i + 1, rfl, ?_, hiv, rfl, (f1.trans f2).tr f3 fun x hx hh => by have := hq x hh; omega, ?_, fun x hx => ?_, ?_⟩
      · dsimp only; rw [htk, upL_snoc]
      · dsimp only; rw [htk, upL_snoc]; exact R3
      · rcases hn3 x hx with h | h
        · exact hq x h
        · omega
      · rw [htk, List.all_append, hall]; simp [ha]
    refine ifD (fun e4 => ifD (fun e5 => ?_) fun e5 => ?_) fun e4 => ?_
    · have hlow := hby.1 ⟨by unfold byteI at *; omega, by unfold byteI at *; omega⟩
      have ex : wrap .u8 (byteI v[i] - 32) = byteI (upB v[i]) := by
        rw [wr8 (by omega) (by omega)]; unfold byteI at *; omega
      rw [ex]
      have hb5 : byteI (upB v[i]) = byteI v[i] - 32 := by unfold byteI at *; omega
      exact b2 _ (fun _ => rfl) (fun h => by omega) fun _ _ => by rw [halp, decide_eq_true_eq]; omega
    · exact b2 _ (fun h => by rw [halp, decide_eq_true_eq] at h; omega) (fun _ => by rw [halp, decide_eq_false_iff_not]; omega) fun _ _ => by omega
    · refine b2 _ (fun h => ?_) (fun h => by rw [halp, decide_eq_false_iff_not]; omega) fun _ _ => by rw [halp, decide_eq_true_eq]; omega
      rw [halp, decide_eq_true_eq] at h
      have := hby.2 ⟨by unfold byteI at *; omega, by unfold byteI at *; omega⟩
      unfold byteI at *; omega
  · have hie : i = v.length := by omega
    have hf : f = true := by
      cases hh : f with
      | true => rfl
      | false => have := hse hh; omega
    have hsl : i < s.length := by omega
    have hsi : s[i] = 32 := by
      have := (hsp hf).1
      rw [← hie, List.getElem?_eq_getElem hsl] at this; exact Option.some.inj this
    refine ixS s i rfl hsl ?_
    rw [hsi]
    refine ifNe (fun e32 => absurd rfl e32) fun _ => b3 hie
end Go.Proofs.YtdpimhlppflidaaDoor
