/-
  New of the program; Of, Mail and Same; a Feed whose tags are told.
-/
import Derived.Test.YtdpimhlppflidaaDoorSmI
namespace Go.Proofs.YtdpimhlppflidaaDoor
set_option linter.unusedSimpArgs false
set_option linter.unusedVariables false
set_option maxRecDepth 20000
open Go
open Go.IntKind (wrap)
/-- What a slice reads as. -/
def Rd {α : Type} (sz : Nat) (vals : α → List Value) (h : Heap) (a : Option Addr) (L : List α) : Prop := ∀ i (hi : i < L.length), ∃ ad, a = some ad ∧ Cells h (ad.add (i * sz)) (vals L[i])
section
variable {α : Type} {sz : Nat} {vals : α → List Value} {h : Heap} {a : Option Addr} {L : List α}
theorem Rd.fr {S : Nat → Prop} {h' : Heap} (R : Rd sz vals h a L) (f : Fr S h h') (hs : ∀ b, InA a b → ¬ S b) : Rd sz vals h' a L := fun i hi => by
  obtain ⟨ad, rfl, c⟩ := R i hi
  exact ⟨ad, rfl, c.fr f (hs _ ⟨ad, rfl, (add_block _ _).symm⟩)⟩
theorem Rd.fr0 {h' : Heap} (f : Fr (fun _ => False) h h') (R : Rd sz vals h a L) : Rd sz vals h' a L := R.fr f fun _ _ => id
theorem Rd.get (R : Rd sz vals h a L) {n : Int} (i : Nat) (hn : n = i) (hi : i < L.length) {K : Addr → Prop} (hk : ∀ ad, Cells h (ad.add (i * sz)) (vals L[i]) → K ad) : idxA n L.length (nn a fun ad => K ad) := by
  obtain ⟨ad, rfl, c⟩ := R i hi
  exact idxA_mk i hn hi (nn_mk (hk ad c))
theorem Row.rd {c : Nat} (R : Row sz vals h a c L) (hv : ∀ x, (vals x).length = sz) (h0 : 0 < sz) : Rd sz vals h a L := fun i hi => R.cellsAt hv h0 i hi
end
theorem SlOk.rd {α : Type} {sz : Nat} {vals : α → List Value} {ok : Heap → α → Prop} {h : Heap} {s : Sl α} (o : SlOk sz vals ok h s) : Rd sz vals h s.p s.xs := fun i hi => by
  obtain ⟨ad, h1, h2, _⟩ := o.at_ i hi; exact ⟨ad, h1, h2⟩
def ofL (L : List Ev) (dir : Int) : List Ev := L.filter fun e => decide (e.Dir = dir)
theorem ofL_append (a b : List Ev) (dir : Int) : ofL (a ++ b) dir = ofL a dir ++ ofL b dir := List.filter_append ..
theorem ofL_take (L : List Ev) (dir : Int) (i : Nat) (hi : i < L.length) : ofL (L.take (i + 1)) dir = if L[i].Dir = dir then ofL (L.take i) dir ++ [L[i]] else ofL (L.take i) dir := by
  rw [show L.take (i + 1) = L.take i ++ [L[i]] by rw [List.take_append_getElem], ofL_append]
  unfold ofL
  rw [List.filter_cons]
  split
  · rename_i hh; rw [if_pos (of_decide_eq_true hh)]; rfl
  · rename_i hh; rw [if_neg fun h => hh (decide_eq_true h), List.filter_nil, List.append_nil]
theorem Of_c [Gh] {h : Heap} {a : Option Addr} {cap : Nat} {L : List Ev} (R : Rd 4 evV h a L) (hl : L.length ≤ 2 ^ 28) (dir : Int) {Q : Value → Heap → Prop}
    (hk : ∀ q c h', Fr (fun _ => False) h h' → Row 4 evV h' q c (ofL L dir) → (∀ x, InA q x → h.size ≤ x) → Q (.slice q (ofL L dir).length c) h') :
    CallT Tryd.prog fn_smtp_Of #[.slice a L.length cap, .int .i64 dir] h Q := by
  apply smtp_Of_s
  unfold smtp_Of_v
  refine LoopV.go (fun n s h' => ∃ i : Nat, s.2.2.2 = (i : Int) ∧ i ≤ L.length ∧ n = L.length - i ∧ s.2.1 = (ofL (L.take i) dir).length ∧ Fr (fun _ => False) h h' ∧ Row 4 evV h' s.1 s.2.2.1 (ofL (L.take i) dir) ∧ ∀ x, InA s.1 x → h.size ≤ x) L.length
    ⟨0, rfl, by omega, rfl, rfl, Fr.refl _ _, Row.nil, fun x hx => (notInA hx).elim⟩ ?_
  rintro n ⟨q, m, c, t⟩ h1 ⟨i, ht, hi, rfl, hm, f1, R1, hq⟩ Kn hK
  have ht : t = (i : Int) := ht
  have hm : m = (ofL (L.take i) dir).length := hm
  have R1 : Row 4 evV h1 q c (ofL (L.take i) dir) := R1
  have hq : ∀ x, InA q x → h.size ≤ x := hq
  subst ht hm
  dsimp only
  unfold smtp_Of_l1
  have z1 := f1.size
  refine ifD (fun e => ?_) fun e => ?_
  · have hlt : i < L.length := by omega
    refine (Rd.fr0 f1 R).get i rfl hlt fun ad ci => ?_
    have ci : Cells h1 (ad.add (i * 4)) [.int .i64 L[i].Kind, .int .i64 L[i].Dir, .string (bs L[i].Name), .string (bs L[i].Text)] := ci
    rw [Int.toNat_natCast]
    refine ldI_mk (ci.at0 rfl) (ldI_mk (ci.at (j := 1) rfl) (ldS_mk (ci.at (j := 2) rfl) (ldS_mk (ci.at (j := 3) rfl) ?_)))
    refine al_mk (vs := [.int .i64 0, .int .i64 0, .string (bs []), .string (bs [])]) fun t7 h2 f2 e2 o2 => ?_
    refine stN_own o2 (ws := evV L[i]) (by rfl) (by rfl) fun h3 f3 s3 o3 => ?_
    have F3 : Fr (fun _ => False) h1 h3 := f2.tr f3 fun b hb hi => by omega
    have c3 : Cells h3 t7 [.int .i64 L[i].Kind, .int .i64 L[i].Dir, .string (bs L[i].Name), .string (bs L[i].Text)] := o3.cells
    refine ldI_mk (c3.at (j := 1) rfl) ?_
    have hot := ofL_take L dir i hlt
    rw [wr (by omega) (by omega)]
    have hfl : (ofL (L.take i) dir).length ≤ i := Nat.le_trans (List.length_filter_le ..) (by rw [List.length_take]; omega)
    refine ifE (fun e4 => ?_) fun e4 => ?_
    · rw [if_pos e4] at hot
      refine ldI_mk (c3.at0 rfl) (ldI_mk (c3.at (j := 1) rfl) (ldS_mk (c3.at (j := 2) rfl) (ldS_mk (c3.at (j := 3) rfl) ?_)))
      refine al_mk (vs := evV L[i]) fun t20 h4 f4 e4 o4 => ?_
      have F4 : Fr (fun _ => False) h1 h4 := F3.trans f4
      have z4 := F4.size
      refine appEv (Row.fr0 F4 R1) o4 (by omega) fun p2 c2 h5 R2 f5 hn2 => ⟨_, _, _, rfl, ?_⟩
      refine hK (L.length - (i + 1)) _ _ (by omega) ⟨i + 1, rfl, hlt, rfl, by dsimp only; rw [hot], (f1.trans F4).tr f5 fun x hx hi => by have := hq x hi; omega, by dsimp only; rw [hot]; exact R2, fun x hx => ?_⟩
      rcases hn2 x hx with h | h
      · exact hq x h
      · omega
    · rw [if_neg e4] at hot
      refine hK (L.length - (i + 1)) _ _ (by omega) ⟨i + 1, rfl, hlt, rfl, by dsimp only; rw [hot], f1.trans F3, by dsimp only; rw [hot]; exact R1.fr0 F3, hq⟩
  · have hil : i = L.length := by omega
    subst hil
    rw [List.take_length] at *
    exact hk q c h1 f1 R1 hq
theorem Same_c [Gh] {h : Heap} {a b : Option Addr} {ca cb : Nat} {L : List Ev} (R : Rd 4 evV h a L) (R2 : Rd 4 evV h b L) (hl : L.length ≤ 2 ^ 60) {Q : Value → Heap → Prop} (hk : Q (.bool true) h) :
    CallT Tryd.prog fn_ref30_Same #[.slice a L.length ca, .slice b L.length cb] h Q := by
  apply ref30_Same_s
  unfold ref30_Same_v
  rw [if_neg (by simp)]
  refine LoopV.go (fun n s h' => ∃ i : Nat, s = (i : Int) ∧ i ≤ L.length ∧ n = L.length - i ∧ h' = h) L.length ⟨0, rfl, by omega, rfl, rfl⟩ ?_
  rintro n - h1 ⟨i, rfl, hi, rfl, rfl⟩ Kn hK
  unfold ref30_Same_l1
  refine ifD (fun e => ?_) fun e => hk
  have hlt : i < L.length := by omega
  refine R.get i rfl hlt fun ad ci => ?_
  have ci : Cells h1 (ad.add (i * 4)) [.int .i64 L[i].Kind, .int .i64 L[i].Dir, .string (bs L[i].Name), .string (bs L[i].Text)] := ci
  rw [Int.toNat_natCast]
  refine ldI_mk (ci.at0 rfl) (ldI_mk (ci.at (j := 1) rfl) (ldS_mk (ci.at (j := 2) rfl) (ldS_mk (ci.at (j := 3) rfl) ?_)))
  refine R2.get i rfl hlt fun ad2 ci => ?_
  have ci : Cells h1 (ad2.add (i * 4)) [.int .i64 L[i].Kind, .int .i64 L[i].Dir, .string (bs L[i].Name), .string (bs L[i].Text)] := ci
  refine ldI_mk (ci.at0 rfl) (ldI_mk (ci.at (j := 1) rfl) (ldS_mk (ci.at (j := 2) rfl) (ldS_mk (ci.at (j := 3) rfl) ?_)))
  skip
  rw [bs_beq, bs_beq, if_neg (by simp), wr (by omega) (by omega)]
  exact hK (L.length - (i + 1)) _ _ (by omega) ⟨i + 1, rfl, hlt, rfl, rfl⟩
/-! ### Mail -/
def mlL (l : Nm) : Nm := (if l.take 1 = [46] then [46] else []) ++ (l ++ [13, 10])
def mailL (m : List Nm) : Nm := m.flatMap mlL ++ [46, 13, 10]
theorem mlL_len (l : Nm) : (mlL l).length ≤ l.length + 3 := by unfold mlL; split <;> simp <;> omega
theorem ml_take (m : List Nm) (i : Nat) (hi : i < m.length) : (m.take (i + 1)).flatMap mlL = (m.take i).flatMap mlL ++ mlL m[i] := by
  rw [show m.take (i + 1) = m.take i ++ [m[i]] by rw [List.take_append_getElem], List.flatMap_append]; simp
theorem ml_len : ∀ m : List Nm, (∀ x ∈ m, x.length ≤ 10000) → (m.flatMap mlL).length ≤ 10003 * m.length
  | [], _ => by simp
  | x :: m, hx => by
    have h1 := ml_len m fun y hy => hx y (List.mem_cons_of_mem _ hy)
    have h2 := mlL_len x
    have h3 := hx x List.mem_cons_self
    rw [List.flatMap_cons, List.length_append, List.length_cons]; omega
theorem ml_le (m : List Nm) (hm : ∀ x ∈ m, x.length ≤ 10000) (hl : m.length ≤ 1000) (i : Nat) : ((m.take i).flatMap mlL).length ≤ 10003000 := by
  have := ml_len (m.take i) fun x hx => hm x (List.mem_of_mem_take hx)
  rw [List.length_take] at this; omega
theorem Mail_c [Gh] {h : Heap} {a : Option Addr} {cap : Nat} {m : List Nm} (R : Rd 1 strV h a m) (hm : ∀ x ∈ m, x.length ≤ 10000) (hl : m.length ≤ 1000) {Q : Value → Heap → Prop}
    (hk : ∀ h', Fr (fun _ => False) h h' → Q (.string (bs (mailL m))) h') : CallT Tryd.prog fn_smtp_Mail #[.slice a m.length cap] h Q := by
  apply smtp_Mail_s
  unfold smtp_Mail_v
  refine al_mk (vs := [.pointer none, .slice none 0 0]) fun t3 h1 f1 e1 o1 => ?_
  have hmk := o1.mk_eq
  have hb := bld_new o1
  refine LoopV.go (fun n s h' => ∃ i : Nat, s = (i : Int) ∧ i ≤ m.length ∧ n = m.length - i ∧ Fr (fun _ => False) h h' ∧ BldH h' t3.block ((m.take i).flatMap mlL)) m.length ⟨0, rfl, by omega, rfl, f1, hb⟩ ?_
  rintro n - h2 ⟨i, rfl, hi, rfl, f2, B2⟩ Kn hK
  unfold smtp_Mail_l1
  have hle := ml_le m hm hl
  refine ifD (fun e => ?_) fun e => ?_
  · have hlt : i < m.length := by omega
    refine (Rd.fr0 f2 R).get i rfl hlt fun ad ci => ?_
    rw [Int.toNat_natCast]
    refine ldS_mk (ci.at0 rfl) ?_
    have htk := ml_take m i hlt
    have hli := hm m[i] (List.getElem_mem hlt)
    have h1e := hle i
    have b2 : ∀ {h3 : Heap} {pre : Nm}, Fr (fun _ => False) h h3 → pre.length ≤ 10003001 → BldH h3 t3.block pre → pre ++ (m[i] ++ [13, 10]) = (m.take (i + 1)).flatMap mlL → smtp_Mail_b2 t3 (bs m[i]) a m.length cap ((m.length : Nat) : Int) (i : Int) Q Kn h3 := fun {h3 pre} f3 hp B3 heq => by
      unfold smtp_Mail_b2
      refine ⟨by rw [bs_size]; exact Int.le_trans (b := 10002) (by have : (⟨#[13, 10]⟩ : ByteArray).size = 2 := rfl; omega) (by decide), ?_⟩
      rw [show bs m[i] ++ (⟨#[13, 10]⟩ : ByteArray) = bs (m[i] ++ [13, 10]) from bs_append _ _, hmk]
      refine WriteString_c B3 (m[i] ++ [13, 10]) (by simp; omega) fun h4 f4 B4 => ⟨_, _, rfl, ?_⟩
      rw [wr (by omega) (by omega)]
      refine hK (m.length - (i + 1)) _ _ (by omega) ⟨i + 1, rfl, hlt, rfl, f3.tr f4 fun x hx hh => by omega, by rw [← heq]; exact B4⟩
    refine HasPrefix_c m[i] ⟨_, rfl, ?_⟩
    refine ifD (fun e4 => ?_) fun e4 => ?_
    · have eml : mlL m[i] = [46] ++ (m[i] ++ [13, 10]) := by unfold mlL; rw [if_pos e4]
      have b2 := @b2
      have B2' : BldH h2 t3.block ((m.take i).flatMap mlL) := B2
      have key : CallT Tryd.prog fn_strings_Builder_WriteString #[.pointer (some ⟨t3.block, 0, none⟩), .string (bs [46])] h2 fun v h3 => ∃ t14_0 : Int, ∃ t14_1 : Value, v = .tuple #[.int .i64 t14_0, t14_1] ∧ smtp_Mail_b2 t3 (bs m[i]) a m.length cap ((m.length : Nat) : Int) (i : Int) Q Kn h3 :=
        WriteString_c B2' [46] (by rw [List.length_singleton]; omega) fun h3 f3 B3 => ⟨_, _, rfl, b2 (f2.tr f3 fun x hx hh => by omega) (by rw [List.length_append, List.length_singleton]; omega) B3 (by rw [htk, eml, List.append_assoc])⟩
      rw [← hmk] at key
      exact key
    · have eml : mlL m[i] = m[i] ++ [13, 10] := by unfold mlL; rw [if_neg e4]; rfl
      exact b2 f2 (by omega) B2 (by rw [htk, eml])
  · have hil : i = m.length := by omega
    subst hil
    have h1e := hle m.length
    rw [List.take_length] at B2 h1e
    unfold smtp_Mail_b3
    have key : CallT Tryd.prog fn_strings_Builder_String #[.pointer (some ⟨t3.block, 0, none⟩)] h2 fun v h5 => ∃ t19 : ByteArray, v = .string t19 ∧ ((t19.size + (⟨#[46, 13, 10]⟩ : ByteArray).size : Nat) : Int) ≤ IntKind.max .i64 ∧ Q (.string (t19 ++ (⟨#[46, 13, 10]⟩ : ByteArray))) h5 :=
      BldString_c B2 fun h3 f3 => ⟨_, rfl, by rw [bs_size]; exact Int.le_trans (b := 10003003) (by have : (⟨#[46, 13, 10]⟩ : ByteArray).size = 3 := rfl; omega) (by decide), by
        have := hk h3 (f2.tr f3 fun x hx hh => by omega)
        unfold mailL at this
        rw [← bs_append] at this; exact this⟩
    rw [← hmk] at key
    exact key
/-! ### New -/
def sd0 : SD := ⟨[], false, []⟩
def st0 : PS := ⟨sd0, sd0, [], false, false, false, [], []⟩
theorem New_c [Gh] {h : Heap} (o : Tag) (k : Nat) (hno : NoO o k) {Q : Value → Heap → Prop}
    (hk : ∀ p o' h', Old h o o' → NoO o' k → (∀ x, o' x = o x ∨ k ≤ o' x ∧ o' x < k + 40) → Fr (fun _ => False) h h' → SesF o' k h' p st0 → Q (.pointer (some p.a)) h') : CallT Tryd.prog fn_smtp_New #[] h Q := by
  apply smtp_New_s
  unfold smtp_New_v
  refine al_mk (vs := [.pointer none, .pointer none, .pointer none, .slice none 0 0, .bool false, .bool false, .bool false, .string (bs []), .slice none 0 0]) fun t5 h1 f1 e1 o1 => ?_
  refine al_mk (vs := [.int .i64 1, .int .i64 2]) fun t6 h2 f2 e2 o2 => ?_
  have z1 := f1.size
  have z2 := f2.size
  have l1 := o1.lt
  have l2 := o2.lt
  have F2 : Fr (fun _ => False) h h2 := f1.trans f2
  have o1 := o1.fr0 f2
  -- a side
  have side : ∀ {h3 : Heap} {K : Addr → Heap → Prop} (q : Tag) (kk : Nat), h2.size ≤ h3.size → (kk = k + 10 ∨ kk = k + 20) → (∀ s1 q' h4, Old h3 q q' → (∀ x, q' x = q x ∨ kk ≤ q' x ∧ q' x < kk + 3) → Fr (fun _ => False) h3 h4 → h3.size ≤ s1.block → SideF q' kk h4 s1 sd0 → K s1 h4) →
      CallT Tryd.prog fn_lines_New #[.int .i64 512] h3 fun v h4 => ∃ t14 : Option Addr, v = .pointer t14 ∧ alV h4 (.cells #[.pointer t14, .slice none 0 0, .bool false] T_smtp_side) K := fun {h3 K} q kk h23 hkk hK => by
    refine lnNew_c fun b h4 f4 e4 S4 => ⟨_, rfl, ?_⟩
    have z4 := f4.size
    have lb := S4.lt
    refine al_mk (vs := [.pointer (some b), .slice none 0 0, .bool false]) fun s1 h5 f5 e5 o5 => ?_
    have z5 := f5.size
    refine hK s1 (upT (upT q h3.size (kk + 2)) h4.size kk) h5 (fun x hx => by rw [upT_lt (by omega), upT_lt hx]) (fun x => ?_) (f4.trans f5) (by omega) ⟨⟨b, none, 0, o5, Que.nil, fun x hx => (notInA hx).elim, (S4.to fun x hx hh => ?_).fr0 f5⟩, upT_ge (by omega)⟩
    · unfold upT; split
      · split
        · exact .inl rfl
        · exact .inr (by omega)
      · exact .inr (by omega)
    · rw [upT_lt hx, upT_ge (by omega)]
  let q0 : Tag := upT (upT o h.size (k + 1)) h1.size (k + 39)
  have hq0 : Old h o q0 := fun x hx => by show upT _ _ _ x = _; rw [upT_lt (by omega), upT_lt hx]
  have hq5 : q0 t5.block = k + 1 := by show upT _ _ _ _ = _; rw [upT_lt (by omega), upT_ge (by omega)]
  have hq6 : q0 t6.block = k + 39 := by show upT _ _ _ _ = _; rw [upT_ge (by omega)]
  have hqr : ∀ x, q0 x = o x ∨ q0 x = k + 1 ∨ q0 x = k + 39 := fun x => by
    show upT _ _ _ x = _ ∨ upT _ _ _ x = _ ∨ upT _ _ _ x = _
    unfold upT; split
    · split
      · exact .inl rfl
      · exact .inr (.inl rfl)
    · exact .inr (.inr rfl)
  generalize q0 = q0 at *
  refine LoopV.go (fun n s h' => (s = 0 ∧ n = 2 ∧ h' = h2) ∨ (∃ s1 q, s = 1 ∧ n = 1 ∧ Old h2 q0 q ∧ (∀ x, q x = q0 x ∨ k + 10 ≤ q x ∧ q x < k + 13) ∧ Fr (fun x => x = t5.block) h2 h' ∧ Own h' t5 [.pointer none, .pointer (some s1), .pointer none, .slice none 0 0, .bool false, .bool false, .bool false, .string (bs []), .slice none 0 0] T_smtp_Session ∧ SideF q (k + 10) h' s1 sd0) ∨
      (∃ s1 s2 q, s = 2 ∧ n = 0 ∧ Old h2 q0 q ∧ (∀ x, q x = q0 x ∨ k + 10 ≤ q x ∧ q x < k + 23) ∧ Fr (fun x => x = t5.block) h2 h' ∧ Own h' t5 [.pointer none, .pointer (some s1), .pointer (some s2), .slice none 0 0, .bool false, .bool false, .bool false, .string (bs []), .slice none 0 0] T_smtp_Session ∧ SideF q (k + 10) h' s1 sd0 ∧ SideF q (k + 20) h' s2 sd0)) 2 (.inl ⟨rfl, rfl, rfl⟩) ?_
  rintro n s h3 (⟨rfl, rfl, rfl⟩ | ⟨s1, q, rfl, rfl, hO, hr, f3, o3, S1⟩ | ⟨s1, s2, q, rfl, rfl, hO, hr, f3, o3, S1, S2⟩) Kn hK
  · unfold smtp_New_l1
    refine ifD (fun _ => ?_) fun e => absurd e (by decide)
    refine idxA_mk 0 rfl (by omega) (nn_mk (ldI_mk (o2.cells.at0 rfl) ?_))
    refine side q0 (k + 10) (Nat.le_refl _) (.inl rfl) fun s1 q' h4 hO4 hr4 f4 hs4 S4 => ?_
    refine idxA_mk 1 rfl (by omega) (st1_own (o1.fr0 f4) 1 (by simp) rfl fun h5 f5 e5 o5 => ?_)
    refine hK 1 _ _ (by omega) (.inr (.inl ⟨s1, q', rfl, rfl, hO4, hr4, (f4.mono fun _ h => h.elim).trans f5, o5, S4.fr f5 (fun x hx hh => ?_) (Old.refl _ _)⟩))
    subst hh
    rw [hO4 _ (by omega), hq5]; omega
  · unfold smtp_New_l1
    refine ifD (fun _ => ?_) fun e => absurd e (by decide)
    have o23 := o2.fr f3 (by omega)
    have z3 := f3.size
    refine idxA_mk 1 rfl (by omega) (nn_mk (ldI_mk (o23.cells.at (j := 1) rfl) ?_))
    refine side q (k + 20) z3 (.inr rfl) fun s2 q' h4 hO4 hr4 f4 hs4 S4 => ?_
    refine idxA_mk 2 rfl (by omega) (st1_own (o3.fr0 f4) 2 (by simp) rfl fun h5 f5 e5 o5 => ?_)
    have ht5 : q t5.block = k + 1 := by rw [hO _ (by omega), hq5]
    have ht5' : q' t5.block = k + 1 := by rw [hO4 _ (by omega), ht5]
    have S14 := S1.fr f4 (fun _ _ h => h.elim) hO4
    refine hK 0 _ _ (by omega) (.inr (.inr ⟨s1, s2, q', rfl, rfl, fun x hx => by rw [hO4 x (by omega)]; exact hO x hx, fun x => ?_, ((f3.tr f4 fun _ _ h => h.elim)).trans f5, o5, S14.fr f5 (fun x hx hh => ?_) (Old.refl _ _), S4.fr f5 (fun x hx hh => ?_) (Old.refl _ _)⟩))
    · have := hr x; have := hr4 x; omega
    · subst hh; omega
    · subst hh; omega
  · unfold smtp_New_l1
    refine ifD (fun e => absurd e (by decide)) fun _ => ?_
    have ht5 : q t5.block = k + 1 := by rw [hO _ (by omega), hq5]
    refine hk ⟨t5, s1, s2⟩ q h3 (fun x hx => by rw [hO x (by omega)]; exact hq0 x hx) (fun x => ?_) (fun x => ?_) (F2.tr f3 fun x hx hh => by omega) ⟨⟨none, 0, none, 0, o3, Que.nil, fun x hx => (notInA hx).elim, Row.nil, fun x hx => (notInA hx).elim, S1, S2⟩, ht5⟩
    · have := hr x; have := hqr x; have := hno x; omega
    · have := hr x; have := hqr x; omega
/-- A Feed whose tags are told. -/
theorem FeedT_c [Gh] {o : Tag} {k : Nat} {h : Heap} {p : SesA} {st : PS} (S : SesF o k h p st) (hno : NoO o k) (d : Bool) (s : Nm) (hw : wt st + s.length ≤ 2 ^ 24) (t : Nat) (ht : t < k ∨ k + 40 ≤ t) {Q : Value → Heap → Prop}
    (hk : ∀ o' h' q c, Old h o o' → NoO o' k → (∀ x, h.size ≤ x → o' x = t ∨ k ≤ o' x ∧ o' x < k + 40) → Fr (SR o k) h h' → SesF o' k h' p (feedP st d s).1 → Row 4 evV h' q c (feedP st d s).2 → (∀ x, InA q x → h.size ≤ x ∧ o' x = t) → Q (.slice q (feedP st d s).2.length c) h') :
    CallT Tryd.prog fn_smtp_Session_Feed #[.pointer (some p.a), .int .i64 (dI2 d), .string (bs s)] h Q := by
  refine Feed_c S hno d s hw t (by omega) (by omega) fun o' h' q c hO hn f S' R' hq => ?_
  refine hk (fun x => if x < h.size then o x else if k ≤ o' x ∧ o' x < k + 40 then o' x else t) h' q c (fun x hx => if_pos hx) (fun x => ?_) (fun x hx => ?_) f (S'.re fun x h1 h2 => ?_) R' fun x hx => ⟨(hq x hx).1, ?_⟩
  · have := hn x; have := hno x
    show (if _ then _ else _) ≠ _ ∧ (if _ then _ else _) ≠ _
    split
    · omega
    · split <;> omega
  · rw [if_neg (by omega)]
    split
    · exact .inr (by omega)
    · exact .inl rfl
  · split
    · rename_i hx; exact (hO x hx).symm
    · rw [if_pos (by omega)]
  · have := hq x hx
    rw [if_neg (by omega), if_neg (by omega)]
end Go.Proofs.YtdpimhlppflidaaDoor
