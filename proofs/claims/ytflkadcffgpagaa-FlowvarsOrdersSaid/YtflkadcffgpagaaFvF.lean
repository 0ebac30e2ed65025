/-
  The reference's variables.
-/
import Derived.Test.YtflkadcffgpagaaFvE
namespace Go.Proofs.Ytflkadcffgpagaa
set_option linter.unusedSimpArgs false
set_option linter.unusedVariables false
set_option maxRecDepth 20000
open Go
open Go.IntKind (wrap)
theorem el_str : ElemT Try.prog T_sl_string T_string Try.t9 (.string (⟨#[]⟩ : ByteArray)) := ⟨Try.underlying27, by kernel_rfl, by kernel_rfl, by kernel_rfl, by decide +kernel⟩
theorem appS [Gh] {h : Heap} {p : Option Addr} {cap : Nat} {L : List Nm} (R : Row 1 strV h p cap L) {e : Nm} {b : Addr} (ob : Own h b (strV e) T_string) (hl : L.length ≤ 2 ^ 29) {K : Value → Heap → Prop}
    (hk : ∀ p' cap' h', Row 1 strV h' p' cap' (L ++ [e]) → Fr (InA p) h h' → (∀ b, InA p' b → InA p b ∨ h.size ≤ b) → K (.slice p' (L ++ [e]).length cap') h') :
    bltV Try.prog .append #[T_sl_string, T_sl_string] T_sl_string #[false, false] #[.slice p L.length cap, .slice (some b) 1 1] h K :=
  R.app el_str Try.underlying27 (by intro k e; cases e) (by kernel_rfl) (by decide +kernel) strV_len (fun _ => rfl) ob 1 hl hk
theorem appSL [Gh] {h : Heap} {p : Option Addr} {cap : Nat} {L M : List Nm} (R : Row 1 strV h p cap L) {x : Value} (s : Src h 1 x M.length (M.flatMap strV)) (hl : L.length + M.length ≤ 2 ^ 29) {K : Value → Heap → Prop}
    (hk : ∀ p' cap' h', Row 1 strV h' p' cap' (L ++ M) → Fr (InA p) h h' → (∀ b, InA p' b → InA p b ∨ h.size ≤ b) → K (.slice p' (L ++ M).length cap') h') :
    bltV Try.prog .append #[T_sl_string, T_sl_string] T_sl_string #[false, false] #[.slice p L.length cap, x] h K :=
  R.appL el_str Try.underlying27 (by intro k e; cases e) (by kernel_rfl) (by decide +kernel) strV_len (fun _ => rfl) s (by omega) hk
theorem set_c [Gh] {h : Heap} {p : Option Addr} {cap : Nat} {l : List Nm} (R : Row 1 strV h p cap l) (hl : l.length ≤ 2 ^ 20) (s : Nm) {Q : Value → Heap → Prop} (hk : Q (.bool (decide (s ∈ l))) h) : CallT Try.prog fn_ref48_set #[.slice p l.length cap, .string (bs s)] h Q := by
  apply ref48_set_s
  unfold ref48_set_v
  refine LoopV.mk (fun st h' => ∃ i : Nat, st = (i : Int) ∧ i ≤ l.length ∧ h' = h ∧ s ∉ l.take i) (fun st _ => l.length - st.toNat) ⟨0, rfl, by omega, rfl, by simp⟩ ?_
  rintro - h1 ⟨i, rfl, hi, hh, hn⟩
  subst h1
  unfold ref48_set_l1
  refine ifD (fun e => ?_) fun e => ?_
  · have hlt : i < l.length := by omega
    have htk : l.take (i + 1) = l.take i ++ [l[i]] := by rw [List.take_append_getElem]
    refine R.idx strV_len (by omega) i rfl hlt fun ad c => ?_
    rw [Int.toNat_natCast]
    refine ldS_mk (c.at0 rfl) (ifS (fun e2 => ?_) fun e2 => ?_)
    · rw [decide_eq_true (by rw [← e2]; exact List.getElem_mem hlt)] at hk; exact hk
    · rw [wr (by omega) (by omega)]
      refine ⟨⟨i + 1, rfl, hlt, rfl, ?_⟩, by omega⟩
      rw [htk, List.mem_append, List.mem_singleton]
      rintro (h | h)
      · exact hn h
      · exact e2 h.symm
  · rw [List.take_of_length_le (by omega)] at hn
    rw [decide_eq_false hn] at hk; exact hk
theorem gt_iff {x s : Nm} : (!(Op.bytesLess (bs x).toList (bs s).toList || ((bs x).toList == (bs s).toList))) = decide (s < x) := by
  rw [bs_toList, bs_toList, bytesLess_eq, Bool.eq_iff_iff]
  simp only [Bool.not_eq_true', Bool.or_eq_false_iff, decide_eq_false_iff_not, beq_eq_false_iff_ne, decide_eq_true_eq]
  constructor
  · rintro ⟨h1, h2⟩; exact lt_of_nlt h1 h2
  · exact fun h => ⟨fun h' => List.lt_irrefl _ (List.lt_trans h h'), fun e => List.lt_irrefl _ (e ▸ h)⟩
theorem with_b2 [Gh] {h : Heap} {p q : Option Addr} {cap qc : Nat} {l o : List Nm} (R : Row 1 strV h p cap l) (Ro : Row 1 strV h q qc o) (hl : o.length ≤ 2 ^ 20) (s : Nm) {i : Nat} (hi : i < l.length) (hi2 : l.length ≤ 2 ^ 20) {done : Bool} {Q : Value → Heap → Prop} {Kn : (Option Addr) × Nat × Nat × Bool × Int → Heap → Prop}
    (hk : ∀ q' qc' h', Row 1 strV h' q' qc' (o ++ [l[i]]) → Fr (InA q) h h' → (∀ b, InA q' b → InA q b ∨ h.size ≤ b) → Kn (q', (o ++ [l[i]]).length, qc', done, (i : Int) + 1) h') : ref48_with_b2 p l.length cap (bs s) q o.length qc done (i : Int) Q Kn h := by
  unfold ref48_with_b2
  refine R.idx strV_len (by omega) i rfl hi fun ad c => ?_
  rw [Int.toNat_natCast]
  refine ldS_mk (c.at0 rfl) ?_
  refine al_mk (vs := strV l[i]) fun b h1 f1 e1 ob => ?_
  refine appS (Ro.fr0 f1) ob (by omega) fun p' c' h2 R2 f2 hn2 => ⟨_, _, _, rfl, ?_⟩
  rw [wr (by omega) (by omega)]
  have z1 := f1.size
  exact hk p' c' h2 R2 ((f1.mono fun _ h => h.elim).trans f2) fun b hb => by rcases hn2 b hb with h | h; exact .inl h; exact .inr (by omega)
theorem with_c [Gh] {h : Heap} {p : Option Addr} {cap : Nat} {l : List Nm} (R : Row 1 strV h p cap l) (hl : l.length ≤ 2 ^ 18) (s : Nm) {Q : Value → Heap → Prop}
    (hk : ∀ p' cap' h', Fr (fun _ => False) h h' → Row 1 strV h' p' cap' (withL l s) → (∀ b, InA p' b → InA p b ∨ h.size ≤ b) → Q (.slice p' (withL l s).length cap') h') :
    CallT Try.prog fn_ref48_with #[.slice p l.length cap, .string (bs s)] h Q := by
  apply ref48_with_s
  unfold ref48_with_v
  refine set_c R (by omega) s ⟨_, rfl, ifD (fun e => ?_) fun e => ?_⟩
  · have ew : withL l s = l := by unfold withL; rw [if_pos e]
    rw [ew] at hk
    exact hk p cap h (Fr.refl _ _) R fun b hb => .inl hb
  have ew : withL l s = insL s l := by unfold withL; rw [if_neg e]
  rw [ew] at hk
  refine al_mk (vs := []) fun t12 h1 f1 e1 o1 => ?_
  have z1 := f1.size
  have R0 : Row 1 strV h1 (some t12) 0 [] := Row.of_own (L := []) strV_len o1
  refine LoopV.mk (fun st h' => ∃ (i : Nat) (o : List Nm) (done : Bool), st.2.2.2.2 = (i : Int) ∧ st.2.2.2.1 = done ∧ st.2.1 = o.length ∧ i ≤ l.length ∧ Fr (fun _ => False) h h' ∧ Row 1 strV h' st.1 st.2.2.1 o ∧ (∀ b, InA st.1 b → h.size ≤ b) ∧ o.length ≤ 2 * i ∧ insL s l = o ++ (if done = true then l.drop i else insL s (l.drop i))) (fun st _ => l.length - st.2.2.2.2.toNat)
    ⟨0, [], false, rfl, rfl, rfl, by omega, f1, R0, fun b hb => by obtain ⟨ad, h1, rfl⟩ := hb; cases h1; omega, by simp, by simp⟩ ?_
  rintro ⟨a, n, c, d, j⟩ h2 ⟨i, o, done, hj, hd, hn, hi, f2, Ro, ha, hol, hinv⟩
  dsimp only at hj hd hn Ro ha
  subst hj hd hn
  unfold ref48_with_l1
  dsimp only
  have R2 := R.fr0 f2
  have fin : ∀ {a' : Option Addr} {h3 : Heap}, Fr (InA a) h2 h3 → Fr (fun _ => False) h h3 := fun g => f2.tr g fun b hb hi => by have := ha b hi; omega
  have z2 := f2.size
  refine ifD (fun e2 => ?_) fun e2 => ?_
  · have hlt : i < l.length := by omega
    have hdr : l.drop i = l[i] :: l.drop (i + 1) := List.drop_eq_getElem_cons hlt
    rw [hdr] at hinv
    refine ifN (fun e3 => ?_) fun e3 => ?_
    · subst e3
      rw [if_neg (by decide)] at hinv
      refine R2.idx strV_len (by omega) i rfl hlt fun ad c => ?_
      rw [Int.toNat_natCast]
      refine ldS_mk (c.at0 rfl) ?_
      rw [gt_iff]
      refine ifD (fun e4 => ?_) fun e4 => ?_
      · refine al_mk (vs := strV s) fun b h3 f3 e3 ob => ?_
        have z3 := f3.size
        refine appS (Ro.fr0 f3) ob (by omega) fun p' c' h4 R4 f4 hn4 => ⟨_, _, _, rfl, ?_⟩
        have F4 : Fr (fun _ => False) h h4 := (f2.trans f3).tr f4 fun b hb hi => by have := ha b hi; omega
        have ha' : ∀ b, InA p' b → h.size ≤ b := fun b hb => by
          rcases hn4 b hb with h | h
          · exact ha b h
          · omega
        refine with_b2 (R.fr0 F4) R4 (by simp; omega) s hlt (by omega) fun q' qc' h5 R5 f5 hn5 => ?_
        have z4 := F4.size
        refine ⟨⟨i + 1, _, true, rfl, rfl, rfl, hlt, F4.tr f5 fun b hb hi => by have := ha' b hi; omega, R5, fun b hb => ?_, by simp; omega, ?_⟩, by (try dsimp only); omega⟩
        · rcases hn5 b hb with h | h
          · exact ha' b h
          · omega
        · rw [if_pos rfl, hinv]
          unfold insL
          rw [if_pos e4]; simp
      · refine with_b2 R2 Ro (by omega) s hlt (by omega) fun q' qc' h5 R5 f5 hn5 => ?_
        refine ⟨⟨i + 1, _, false, rfl, rfl, rfl, hlt, f2.tr f5 fun b hb hi => by have := ha b hi; omega, R5, fun b hb => ?_, by simp; omega, ?_⟩, by (try dsimp only); omega⟩
        · rcases hn5 b hb with h | h
          · exact ha b h
          · omega
        · rw [if_neg (by decide), hinv]
          conv => lhs; unfold insL
          rw [if_neg e4]; simp
    · subst e3
      rw [if_pos rfl] at hinv
      refine with_b2 R2 Ro (by omega) s hlt (by omega) fun q' qc' h5 R5 f5 hn5 => ?_
      refine ⟨⟨i + 1, _, true, rfl, rfl, rfl, hlt, f2.tr f5 fun b hb hi => by have := ha b hi; omega, R5, fun b hb => ?_, by simp; omega, ?_⟩, by (try dsimp only); omega⟩
      · rcases hn5 b hb with h | h
        · exact ha b h
        · omega
      · rw [if_pos rfl, hinv]; simp
  · rw [List.drop_eq_nil_of_le (by omega)] at hinv
    unfold ref48_with_b3
    refine ifN (fun e3 => ?_) fun e3 => ?_
    · subst e3
      rw [if_neg (by decide)] at hinv
      refine al_mk (vs := strV s) fun b h3 f3 e3 ob => ?_
      have z3 := f3.size
      refine appS (Ro.fr0 f3) ob (by omega) fun p' c' h4 R4 f4 hn4 => ⟨_, _, _, rfl, ?_⟩
      have ei : insL s l = o ++ [s] := hinv
      rw [ei] at hk
      refine hk p' c' h4 ((f2.trans f3).tr f4 fun b hb hi => by have := ha b hi; omega) R4 fun b hb => ?_
      rcases hn4 b hb with h | h
      · exact .inr (ha b h)
      · exact .inr (by omega)
    · subst e3
      rw [if_pos rfl, List.append_nil] at hinv
      rw [hinv] at hk
      exact hk a c h2 f2 Ro fun b hb => .inr (ha b hb)
theorem without_c [Gh] {h : Heap} {p : Option Addr} {cap : Nat} {l : List Nm} (R : Row 1 strV h p cap l) (hl : l.length ≤ 2 ^ 18) (s : Nm) {Q : Value → Heap → Prop}
    (hk : ∀ p' cap' h', Fr (fun _ => False) h h' → Row 1 strV h' p' cap' (withoutL l s) → (∀ b, InA p' b → h.size ≤ b) → Q (.slice p' (withoutL l s).length cap') h') :
    CallT Try.prog fn_ref48_without #[.slice p l.length cap, .string (bs s)] h Q := by
  apply ref48_without_s
  unfold ref48_without_v
  refine al_mk (vs := []) fun t12 h1 f1 e1 o1 => ?_
  have z1 := f1.size
  have R0 : Row 1 strV h1 (some t12) 0 [] := Row.of_own (L := []) strV_len o1
  refine LoopV.mk (fun st h' => ∃ (i : Nat), st.2.2.2 = (i : Int) ∧ st.2.1 = (withoutL (l.take i) s).length ∧ i ≤ l.length ∧ Fr (fun _ => False) h h' ∧ Row 1 strV h' st.1 st.2.2.1 (withoutL (l.take i) s) ∧ (∀ b, InA st.1 b → h.size ≤ b)) (fun st _ => l.length - st.2.2.2.toNat)
    ⟨0, rfl, rfl, by omega, f1, R0, fun b hb => by obtain ⟨ad, h1, rfl⟩ := hb; cases h1; omega⟩ ?_
  rintro ⟨a, n, c, j⟩ h2 ⟨i, hj, hn, hi, f2, Ro, ha⟩
  dsimp only at hj hn Ro ha
  subst hj hn
  unfold ref48_without_l1
  dsimp only
  have R2 := R.fr0 f2
  have z2 := f2.size
  have hwl : (withoutL (l.take i) s).length ≤ 2 ^ 18 := Nat.le_trans (without_len _ _) (by rw [List.length_take]; omega)
  refine ifD (fun e2 => ?_) fun e2 => ?_
  · have hlt : i < l.length := by omega
    have htk : l.take (i + 1) = l.take i ++ [l[i]] := by rw [List.take_append_getElem]
    refine R2.idx strV_len (by omega) i rfl hlt fun ad c => ?_
    rw [Int.toNat_natCast]
    refine ldS_mk (c.at0 rfl) (ifSn (fun e3 => ?_) fun e3 => ?_)
    · have hw : withoutL (l.take (i + 1)) s = withoutL (l.take i) s ++ [l[i]] := by
        unfold withoutL; rw [htk, List.filter_append, List.filter_cons, decide_eq_true e3]; rfl
      refine R2.idx strV_len (by omega) i rfl hlt fun ad c => ?_
      refine ldS_mk (c.at0 rfl) ?_
      refine al_mk (vs := strV l[i]) fun b h3 f3 e3 ob => ?_
      have z3 := f3.size
      refine appS (Ro.fr0 f3) ob (by omega) fun p' c' h4 R4 f4 hn4 => ⟨_, _, _, rfl, ?_⟩
      rw [← hw] at R4 ⊢
      rw [wr (by omega) (by omega)]
      refine ⟨⟨i + 1, rfl, rfl, hlt, (f2.trans f3).tr f4 fun b hb hi => by have := ha b hi; omega, R4, fun b hb => ?_⟩, by (try dsimp only); omega⟩
      rcases hn4 b hb with h | h
      · exact ha b h
      · omega
    · have hw : withoutL (l.take (i + 1)) s = withoutL (l.take i) s := by
        unfold withoutL; rw [htk, List.filter_append, List.filter_cons, decide_eq_false (by simpa using e3)]; simp
      rw [← hw] at Ro ⊢
      rw [wr (by omega) (by omega)]
      exact ⟨⟨i + 1, rfl, rfl, hlt, f2, Ro, ha⟩, by (try dsimp only); omega⟩
  · rw [List.take_of_length_le (by omega)] at Ro ⊢
    exact hk a c h2 f2 Ro ha
end Go.Proofs.Ytflkadcffgpagaa
