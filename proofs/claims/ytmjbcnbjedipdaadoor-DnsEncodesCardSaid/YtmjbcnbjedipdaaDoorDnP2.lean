/-
  The messages of layer 29: what is written, on both sides; the messages of a connection.
-/
import Derived.Test.YtmjbcnbjedipdaaDoorDnP1
import Derived.Test.YtmjbcnbjedipdaaDoorMapT
import Derived.Test.YtmjbcnbjedipdaaDoorLoop
import Derived.Test.YtmjbcnbjedipdaaDoorKit3
/-!
  The program's writer: numbers and names.
-/
namespace Go.Proofs.YtmjbcnbjedipdaaDoor
set_option linter.unusedSimpArgs false
set_option linter.unusedVariables false
set_option maxRecDepth 20000
open Go
open Go.IntKind (wrap)
def cutDot : Nm → Nm × Nm × Bool
  | [] => ([], [], false)
  | c :: l => if c = 46 then ([], l, true) else (c :: (cutDot l).1, (cutDot l).2.1, (cutDot l).2.2)
theorem cut_index : ∀ l : Nm, Lib.index l [46] = if (cutDot l).2.2 = true then (((cutDot l).1.length : Nat) : Int) else -1
  | [] => rfl
  | c :: l => by
    have ih := cut_index l
    rw [index_cons]
    unfold cutDot
    by_cases h : c = 46
    · rw [if_pos h, if_pos h, if_pos rfl]; rfl
    · rw [if_neg h, if_neg h, ih]
      cases hb : (cutDot l).2.2
      · simp
      · have : ¬ (((cutDot l).1.length : Nat) : Int) = -1 := by omega
        simp [this]
theorem cut_eq : ∀ l : Nm, l = (cutDot l).1 ++ (if (cutDot l).2.2 = true then 46 :: (cutDot l).2.1 else []) ∧ ((cutDot l).2.2 = false → (cutDot l).2.1 = [])
  | [] => ⟨rfl, fun _ => rfl⟩
  | c :: l => by
    obtain ⟨h1, h2⟩ := cut_eq l
    unfold cutDot
    by_cases h : c = 46
    · rw [if_pos h]; exact ⟨by rw [h]; rfl, fun hh => by cases hh⟩
    · rw [if_neg h]
      refine ⟨?_, h2⟩
      dsimp only
      rw [List.cons_append, ← h1]
theorem cut_split : ∀ l : Nm, splitDot l = if (cutDot l).2.2 = true then (cutDot l).1 :: splitDot (cutDot l).2.1 else [(cutDot l).1]
  | [] => rfl
  | c :: l => by
    have ih := cut_split l
    unfold cutDot
    conv => lhs; unfold splitDot
    by_cases h : c = 46
    · rw [if_pos h, if_pos h]; rfl
    · rw [if_neg h, if_neg h, ih]
      dsimp only
      cases hb : (cutDot l).2.2 <;> rfl
theorem cut_rest (l : Nm) (h : l ≠ []) : (cutDot l).2.1.length < l.length ∧ (cutDot l).1.length ≤ l.length := by
  obtain ⟨h1, h2⟩ := cut_eq l
  have hl := congrArg List.length h1
  rw [List.length_append] at hl
  cases hb : (cutDot l).2.2 with
  | false =>
    rw [h2 hb]
    have : 0 < l.length := List.length_pos_iff.2 h
    exact ⟨by simpa using this, by omega⟩
  | true => rw [hb, if_pos rfl] at hl; simp at hl; omega
theorem cut_c [Gh] (l : Nm) (hl : l.length ≤ 2 ^ 30) {h : Heap} {Q : Value → Heap → Prop} (hk : Q (.tuple #[.string (bs (cutDot l).1), .string (bs (cutDot l).2.1), .bool (cutDot l).2.2]) h) : CallT Tryd.prog fn_strings_Cut #[.string (bs l), .string (⟨#[46]⟩ : ByteArray)] h Q := by
  apply strings_Cut_s
  unfold strings_Cut_v
  apply internal_stringslite_Cut_s
  unfold internal_stringslite_Cut_v
  obtain ⟨h1, h2⟩ := cut_eq l
  refine index_c l ⟨_, rfl, ?_⟩
  rw [cut_index]
  cases hb : (cutDot l).2.2 with
  | false =>
    rw [hb] at hk h1
    have h2 := h2 hb
    rw [h2] at hk
    rw [if_neg Bool.false_ne_true, List.append_nil] at h1
    rw [if_neg Bool.false_ne_true]
    refine ifD (fun e => absurd e (by decide)) fun _ => ?_
    refine ⟨_, _, _, rfl, ?_⟩
    rw [← h1] at hk
    exact hk
  | true =>
    rw [hb] at hk h1
    rw [if_pos rfl] at h1 ⊢
    have hlen := congrArg List.length h1
    rw [List.length_append, List.length_cons] at hlen
    refine ifD (fun _ => ?_) fun e => absurd e (by omega)
    refine slT l (cutDot l).1.length rfl (by omega) ?_
    have e46 : (((⟨#[46]⟩ : ByteArray).size : Nat) : Int) = 1 := rfl
    rw [e46]
    refine slF l ((cutDot l).1.length + 1) (by rw [wr (by omega) (by omega)]; omega) (by omega) ?_
    refine ⟨_, _, _, rfl, ?_⟩
    have t12 : ∀ (l p r : Nm), l = p ++ 46 :: r → l.take p.length = p ∧ l.drop (p.length + 1) = r := fun l p r e => by
      subst e; exact ⟨List.take_left, by rw [List.drop_append]; simp⟩
    obtain ⟨t1, t2⟩ := t12 l _ _ h1
    rw [t1, t2]; exact hk
def lookN (S : List (Nm × Nat)) (s : Nm) : Option Nat := (S.find? fun e => decide (e.1 = s)).map (·.2)
def nameW (short : Bool) (s out : Nm) (S : List (Nm × Nat)) : Nm × List (Nm × Nat) :=
  if h : s = [] then (out ++ beB 1 0, S)
  else match (if short = true then lookN S s else none) with
    | some at_ => (out ++ beB 2 (49152 + at_), S)
    | none => nameW short (cutDot s).2.1 (out ++ beB 1 (cutDot s).1.length ++ (cutDot s).1) (if short = true ∧ out.length < 16384 then S ++ [(s, out.length)] else S)
termination_by s.length
decreasing_by exact (cut_rest s h).1
theorem nameW_nil (short : Bool) (out : Nm) (S : List (Nm × Nat)) : nameW short [] out S = (out ++ beB 1 0, S) := by rw [nameW, dif_pos rfl]
theorem nameW_hit {short : Bool} {s out : Nm} {S : List (Nm × Nat)} {a : Nat} (h : s ≠ []) (hl : (if short = true then lookN S s else none) = some a) : nameW short s out S = (out ++ beB 2 (49152 + a), S) := by rw [nameW, dif_neg h, hl]
theorem nameW_miss {short : Bool} {s out : Nm} {S : List (Nm × Nat)} (h : s ≠ []) (hl : (if short = true then lookN S s else none) = none) :
    nameW short s out S = nameW short (cutDot s).2.1 (out ++ beB 1 (cutDot s).1.length ++ (cutDot s).1) (if short = true ∧ out.length < 16384 then S ++ [(s, out.length)] else S) := by rw [nameW, dif_neg h, hl]
def mE (e : Nm × Nat) : Nm × Value := (e.1, .int .i64 e.2)
theorem getL_lookN (S : List (Nm × Nat)) (s : Nm) : getL (S.map mE) s = (lookN S s).map fun n : Nat => Value.int .i64 (n : Int) := by
  unfold getL lookN
  rw [List.find?_map, Option.map_map, Option.map_map]
  rfl
theorem lookN_miss {S : List (Nm × Nat)} {s : Nm} (h : lookN S s = none) : ∀ e ∈ S.map mE, e.1 ≠ s := by
  refine getL_none ?_
  rw [getL_lookN, h]; rfl
theorem lookN_mem {S : List (Nm × Nat)} {s : Nm} {n : Nat} (h : lookN S s = some n) : (s, n) ∈ S := by
  unfold lookN at h
  rw [Option.map_eq_some_iff] at h
  obtain ⟨e, h1, h2⟩ := h
  have h3 := List.mem_of_find?_eq_some h1
  have h4 := List.find?_some h1
  rw [decide_eq_true_eq] at h4
  rw [← h4, ← h2]; exact h3
theorem strT : KeyT Tryd.prog T_string strE := strKeyT Tryd.underlying9
theorem zeroI {h : Heap} {K : Value → Heap → Prop} (hk : K (.int .i64 0) h) : wpH Tryd.prog (zeroValue T_int) K h := zero_mk (i := Tryd.t3) (by kernel_rfl) (by kernel_rfl) hk
theorem lookN_nil [Gh] (s : Nm) {h : Heap} {K : Value → Heap → Prop} (hk : K (.tuple #[.int .i64 0, .bool false]) h) : lookV Tryd.prog T_map_string_int (.map none) (.string (bs s)) true h K := by
  unfold lookV Instr.lookup
  simp only [bind]
  rw [wpH_bind]; refine wpH_underlying Tryd.underlying65 ?_
  simp only [pure, Sem.bind]
  rw [wpH_bind]; refine strT.check _ s ?_
  rw [wpH_bind]
  refine strT.find s [] ?_
  show wpH _ _ _ _
  simp only [findE]
  rw [wpH_bind]; refine zeroI ?_
  exact hk
structure WF (ok : Nat → Prop) (h : Heap) (wb : Addr) (short : Bool) (S : List (Nm × Nat)) (out : Nm) : Prop where
  ex : ∃ p c mo, Own h wb [.slice p out.length c, .map mo] T_dns_writer ∧ Row 1 bV h p c out ∧ (∀ b, InA p b → ok b ∧ b ≠ wb.block) ∧ (short = true → ∃ r, mo = some r ∧ MapI strE h r (S.map mE) ∧ ok r ∧ r ≠ wb.block ∧ ¬ InA p r) ∧ (short = false → mo = none)
  okw : ok wb.block
  off : ∀ e ∈ S, e.2 < 16384
section
variable {ok : Nat → Prop} {h : Heap} {wb : Addr} {short : Bool} {S : List (Nm × Nat)} {out : Nm}
theorem WF.fr (W : WF ok h wb short S out) {P : Nat → Prop} {h' : Heap} (f : Fr P h h') (hP : ∀ b, b < h.size → P b → ¬ ok b) : WF ok h' wb short S out := by
  obtain ⟨p, c, mo, o, R, hp, hm, hn⟩ := W.ex
  exact ⟨⟨p, c, mo, o.fr f fun h => hP _ o.lt h W.okw, R.fr f fun b hb h => hP b (R.lt hb) h (hp b hb).1, hp, fun hs => by
    obtain ⟨r, e, I, g⟩ := hm hs; exact ⟨r, e, I.fr f fun h => hP _ I.lt h g.1, g⟩, hn⟩, W.okw, W.off⟩
theorem WF.fr0 (W : WF ok h wb short S out) {h' : Heap} (f : Fr (fun _ => False) h h') : WF ok h' wb short S out := W.fr f fun _ _ h => h.elim
theorem WF.lt (W : WF ok h wb short S out) : wb.block < h.size := by obtain ⟨p, c, mo, o, _⟩ := W.ex; exact o.lt
theorem WF.cell (W : WF ok h wb short S out) {K : Option Addr → Nat → Nat → Prop} (hk : ∀ p c, hcell h wb = some (.slice p out.length c) → K p out.length c) : ldL h wb K := by
  obtain ⟨p, c, mo, o, _⟩ := W.ex
  have hc : hcell h wb = some (.slice p out.length c) := o.cells.at0 rfl
  exact ldL_mk hc (hk p c hc)
/-- A text is appended. -/
theorem WF.push [Gh] (W : WF ok h wb short S out) (hok : ∀ b, h.size ≤ b → ok b) (hl : out.length ≤ 2 ^ 28) (t : Nm) (ht : t.length ≤ 2 ^ 28) {p : Option Addr} {c : Nat} (hc : hcell h wb = some (.slice p out.length c)) {K : Heap → Prop}
    (hk : ∀ h', Fr ok h h' → WF ok h' wb short S (out ++ t) → K h') : bltV Tryd.prog .append #[T_sl_uint8, T_string] T_sl_uint8 #[false, false] #[.slice p out.length c, .string (bs t)] h fun v h6 => ∃ t64a : Option Addr, ∃ t64n : Nat, ∃ t64c : Nat, v = .slice t64a t64n t64c ∧ nn (some wb) fun t65 => st1 h6 t65 (.slice t64a t64n t64c) K := by
  obtain ⟨p', c', mo, o, R, hp, hm, hn⟩ := W.ex
  have he := hc.symm.trans (o.cells.at0 (v := .slice p' out.length c') rfl)
  simp only [Option.some.injEq, Value.slice.injEq] at he
  obtain ⟨rfl, _, rfl⟩ := he
  have lw := o.lt
  refine appB R t (by omega) fun p2 c2 h2 R2 f2 hn2 => ⟨_, _, _, rfl, ?_⟩
  refine nn_mk ?_
  have o2 := o.fr f2 fun h => (hp _ h).2 rfl
  refine st1_own0 o2 (by simp) rfl fun h3 f3 s3 o3 => ?_
  have new : ∀ b, InA p2 b → ok b ∧ b ≠ wb.block := fun b hb => by
    rcases hn2 b hb with h | h
    · exact hp b h
    · exact ⟨hok b h, by omega⟩
  refine hk h3 ((f2.mono fun b hb => (hp b hb).1).trans (f3.mono fun b hb => hb ▸ W.okw)) ⟨⟨p2, c2, mo, o3, R2.fr f3 fun b hb h => (new b hb).2 h, new, fun hs => ?_, hn⟩, W.okw, W.off⟩
  obtain ⟨r, e, I, g1, g2, g3⟩ := hm hs
  have lr := I.lt
  refine ⟨r, e, (I.fr f2 fun h => g3 h).fr f3 g2, g1, g2, fun hi => ?_⟩
  rcases hn2 r hi with h | h
  · exact g3 h
  · omega
theorem wnum_c [Gh] (W : WF ok h wb short S out) (hok : ∀ b, h.size ≤ b → ok b) (hl : out.length ≤ 2 ^ 27) (n k : Nat) (h1 : 1 ≤ k) (h7 : k ≤ 7) (hn : n < 256 ^ k) {Q : Value → Heap → Prop} (hk : ∀ h', Fr ok h h' → WF ok h' wb short S (out ++ beB k n) → Q (.tuple #[]) h') :
    CallT Tryd.prog fn_dns_writer_number #[.pointer (some wb), .int .i64 n, .int .i64 k] h Q := by
  apply dns_writer_number_s
  unfold dns_writer_number_v
  refine nn_mk (W.cell fun p c hc => ?_)
  refine put_c n k h1 h7 hn fun h2 f2 => ⟨_, rfl, ?_⟩
  have z2 := f2.size
  have hc2 := f2.hcell hc id
  refine ⟨ldL_mk hc2 rfl, ?_⟩
  refine (W.fr0 f2).push (fun b hb => hok b (by omega)) (by omega) (beB k n) (by rw [beB_len]; omega) hc2 fun h3 f3 W3 => ?_
  exact hk h3 ((f2.mono fun _ h => h.elim).trans f3) W3
theorem or49152 (n : Nat) (hn : n < 16384) : wrap .i64 (BitVec.toNat (BitVec.ofInt (IntKind.bits .i64) 49152 ||| BitVec.ofInt (IntKind.bits .i64) (n : Int)) : Int) = ((49152 + n : Nat) : Int) := by
  have e : IntKind.bits .i64 = 64 := rfl
  have e2 : (49152 : Int) = ((49152 : Nat) : Int) := rfl
  rw [e, e2, BitVec.ofInt_natCast, BitVec.ofInt_natCast, BitVec.toNat_or, BitVec.toNat_ofNat, BitVec.toNat_ofNat, Nat.mod_eq_of_lt (a := 49152) (by omega), Nat.mod_eq_of_lt (a := n) (by omega)]
  have := Nat.two_pow_add_eq_or_of_lt (i := 14) (b := n) (by omega) 3
  have e3 : 2 ^ 14 * 3 = 49152 := by decide
  rw [e3] at this
  rw [← this, wr (by omega) (by omega)]
end
end Go.Proofs.YtmjbcnbjedipdaaDoor
/-!
  The program's writer: names.
-/
namespace Go.Proofs.YtmjbcnbjedipdaaDoor
set_option linter.unusedSimpArgs false
set_option linter.unusedVariables false
set_option maxRecDepth 20000
open Go
open Go.IntKind (wrap)
def okS (s : Nm) : Prop := s = [] ∨ ∀ x ∈ splitDot s, x.length ≤ 63
theorem okS.cut {s : Nm} (h : okS s) (hn : s ≠ []) : (cutDot s).1.length ≤ 63 ∧ okS (cutDot s).2.1 := by
  rcases h with h | h
  · exact absurd h hn
  rw [cut_split] at h
  cases hb : (cutDot s).2.2 with
  | false =>
    rw [hb, if_neg Bool.false_ne_true] at h
    exact ⟨h _ (by simp), .inl ((cut_eq s).2 hb)⟩
  | true =>
    rw [hb, if_pos rfl] at h
    exact ⟨h _ (by simp), .inr fun x hx => h x (by simp [hx])⟩
theorem cut_two (s : Nm) (hn : s ≠ []) : (cutDot s).1.length + 1 + 2 * (cutDot s).2.1.length ≤ 2 * s.length := by
  obtain ⟨h1, h2⟩ := cut_eq s
  have hl := congrArg List.length h1
  rw [List.length_append] at hl
  have : 0 < s.length := List.length_pos_iff.2 hn
  cases hb : (cutDot s).2.2 with
  | false => rw [hb, if_neg Bool.false_ne_true] at hl; rw [h2 hb]; simp at hl ⊢; omega
  | true => rw [hb, if_pos rfl] at hl; simp at hl; omega
theorem ifSS {α : Type} {a : α} {X Y : Prop} (h : X) : if (!(Option.isNone (some a))) = true then X else Y := h
theorem ifSN {α : Type} {X Y : Prop} (h : Y) : if (!(Option.isNone (none : Option α))) = true then X else Y := h
section
variable {ok : Nat → Prop} {h : Heap} {wb : Addr} {short : Bool} {S : List (Nm × Nat)} {out : Nm}
theorem wname_b2 [Gh] (W : WF ok h wb short S out) (hok : ∀ b, h.size ≤ b → ok b) (s : Nm) (hs : s.length ≤ 2 ^ 20) (hn : (cutDot s).1.length ≤ 63) (hl : out.length ≤ 2 ^ 26) {Q : Value → Heap → Prop} {Kn : ByteArray → Heap → Prop}
    (hk : ∀ h', Fr ok h h' → WF ok h' wb short S (out ++ beB 1 (cutDot s).1.length ++ (cutDot s).1) → Kn (bs (cutDot s).2.1) h') : dns_writer_name_b2 (some wb) (bs s) Q Kn h := by
  unfold dns_writer_name_b2
  refine cut_c s (by omega) ⟨_, _, _, rfl, ?_⟩
  rw [bs_size]
  refine wnum_c W hok (by omega) (cutDot s).1.length 1 (by omega) (by omega) (by omega) fun h1 f1 W1 => ⟨rfl, ?_⟩
  have z1 := f1.size
  refine nn_mk (W1.cell fun p c hc => ?_)
  refine W1.push (fun b hb => hok b (by omega)) (by rw [List.length_append, beB_len]; omega) (cutDot s).1 (by omega) hc fun h2 f2 W2 => ?_
  exact hk h2 (f1.trans f2) W2
set_option maxRecDepth 20000 in
theorem wname_c [Gh] (W : WF ok h wb short S out) (hok : ∀ b, h.size ≤ b → ok b) (s : Nm) (hs : s.length ≤ 2 ^ 20) (hv : okS s) (hl : out.length ≤ 2 ^ 25) (hSh : short = false → S = []) {Q : Value → Heap → Prop}
    (hk : ∀ h', Fr ok h h' → WF ok h' wb short (nameW short s out S).2 (nameW short s out S).1 → Q (.tuple #[]) h') : CallT Tryd.prog fn_dns_writer_name #[.pointer (some wb), .string (bs s)] h Q := by
  apply dns_writer_name_s
  unfold dns_writer_name_v
  obtain ⟨m14, hm14⟩ : ∃ m : Int, m = 16384 := ⟨_, rfl⟩
  refine LoopV.go (fun n st h' => ∃ (s' : Nm) (S' : List (Nm × Nat)) (out' : Nm), st = bs s' ∧ n = s'.length ∧ Fr ok h h' ∧ WF ok h' wb short S' out' ∧ okS s' ∧ s'.length ≤ s.length ∧ out'.length + 2 * s'.length ≤ out.length + 2 * s.length ∧ nameW short s out S = nameW short s' out' S') s.length ⟨s, S, out, rfl, rfl, Fr.refl _ _, W, hv, Nat.le_refl _, Nat.le_refl _, rfl⟩ ?_
  rintro n - h1 ⟨s', S', out', rfl, rfl, f1, W1, hv1, hs1, hl1, he⟩ Kn hK
  have z1 := f1.size
  have hok1 : ∀ b, h1.size ≤ b → ok b := fun b hb => hok b (by omega)
  unfold dns_writer_name_l1
  refine ifSn (m := []) (fun hne => ?_) fun he0 => ?_
  · obtain ⟨hc1, hc2⟩ := hv1.cut hne
    have hc3 := cut_two s' hne
    have hc4 := cut_rest s' hne
    -- the name goes on
    have on : (if short = true then lookN S' s' else none) = none → ∀ {h2 : Heap} {S2 : List (Nm × Nat)}, Fr ok h1 h2 → WF ok h2 wb short S2 out' → S2 = (if short = true ∧ out'.length < 16384 then S' ++ [(s', out'.length)] else S') → dns_writer_name_b2 (some wb) (bs s') Q Kn h2 := fun hmiss {h2 S2} f2 W2 hS2 => by
      have z2 := f2.size
      refine wname_b2 W2 (fun b hb => hok1 b (by omega)) s' (by omega) hc1 (by omega) fun h3 f3 W3 => ?_
      refine hK _ _ _ hc4.1 ⟨(cutDot s').2.1, S2, _, rfl, rfl, (f1.trans f2).trans f3, W3, hc2, by omega, ?_, ?_⟩
      · rw [List.length_append, List.length_append, beB_len]; omega
      · rw [he, nameW_miss hne hmiss, hS2]
    obtain ⟨p, c, mo, o, R, hp, hm, hnm⟩ := W1.ex
    have c1 := o.cells
    refine nn_mk (ldM_mk (c1.at (j := 1) rfl) ?_)
    cases hsh : short with
    | false =>
      have hmo := hnm hsh
      subst hmo
      refine lookN_nil s' ⟨_, _, rfl, ?_⟩
      rw [if_neg Bool.false_ne_true]
      refine nn_mk (ldM_mk (c1.at (j := 1) rfl) ?_)
      refine ifSN ?_
      exact on (by rw [hsh]; rfl) (Fr.refl _ _) W1 (by rw [hsh]; rfl)
    | true =>
      obtain ⟨r, hmo, I, g1, g2, g3⟩ := hm hsh
      subst hmo
      refine look_mk strT Tryd.underlying65 (z := .int .i64 0) zeroI I s' true ?_
      rw [if_pos rfl, getL_lookN]
      cases hlk : lookN S' s' with
      | some a =>
        have ha := W1.off _ (lookN_mem hlk)
        refine ⟨(a : Int), true, rfl, ?_⟩
        rw [if_pos rfl, or49152 a ha]
        refine wnum_c W1 hok1 (by omega) (49152 + a) 2 (by omega) (by omega) (by simp only at ha; omega) fun h2 f2 W2 => ⟨rfl, ?_⟩
        rw [nameW_hit hne (by rw [hsh, if_pos rfl, hlk])] at he
        rw [he] at hk
        exact hk h2 (f1.trans f2) W2
      | none =>
        refine ⟨0, false, rfl, ?_⟩
        rw [if_neg Bool.false_ne_true]
        have hmiss : (if short = true then lookN S' s' else none) = none := by rw [hsh, if_pos rfl, hlk]
        refine nn_mk (ldM_mk (c1.at (j := 1) rfl) (ifSS ?_))
        refine nn_mk ?_
        refine W1.cell fun p2 c2 hc2 => ?_
        rw [← hm14]
        refine ifD (fun e1 => ?_) fun e1 => ?_
        · refine nn_mk (ldM_mk (c1.at (j := 1) rfl) (nn_mk (W1.cell fun p3 c3 hc3 => ?_)))
          refine mapUpd_mk strT Tryd.underlying65 I s' _ fun h2 f2 s2 I2 => ?_
          rw [put_new (lookN_miss hlk)] at I2
          have eS : S'.map mE ++ [(s', Value.int .i64 ((out'.length : Nat) : Int))] = (S' ++ [(s', out'.length)]).map mE := by rw [List.map_append]; rfl
          rw [eS] at I2
          refine on hmiss (f2.mono fun b hb => hb ▸ g1) (S2 := S' ++ [(s', out'.length)]) ⟨⟨p, c, some r, o.fr f2 fun h => g2 h.symm, R.fr f2 fun b hb h => g3 (h ▸ hb), hp, fun _ => ⟨r, rfl, I2, g1, g2, g3⟩, fun h => absurd (hsh.symm.trans h) (by decide)⟩, W1.okw, fun e he => ?_⟩ (by rw [if_pos ⟨hsh, by omega⟩])
          rcases List.mem_append.1 he with h | h
          · exact W1.off e h
          · rw [List.mem_singleton] at h; subst h; show out'.length < _; omega
        · exact on hmiss (Fr.refl _ _) W1 (by rw [if_neg fun h => e1 (by omega)])
  · subst he0
    unfold dns_writer_name_b3
    rw [nameW_nil] at he
    rw [he] at hk
    have hlz : out'.length ≤ 2 ^ 27 := by simp only [List.length_nil] at hl1; omega
    refine wnum_c W1 hok1 hlz 0 1 (by omega) (by omega) (by omega) fun h2 f2 W2 => ?_
    exact ⟨rfl, hk h2 (f1.trans f2) W2⟩
end
end Go.Proofs.YtmjbcnbjedipdaaDoor
/-!
  A part of a row of bytes is written over.
-/
namespace Go.Proofs.YtmjbcnbjedipdaaDoor
set_option linter.unusedSimpArgs false
set_option linter.unusedVariables false
set_option maxRecDepth 20000
open Go
open Go.IntKind (wrap)
theorem bytesV_append (a b : Nm) : bytesV (a ++ b) = bytesV a ++ bytesV b := by simp [bytesV]
theorem copyAt [Gh] {h : Heap} {ad : Addr} {cap : Nat} {L : Nm} (R : Row 1 bV h (some ad) cap L) (k : Nat) (t : Nm) (ht : k + t.length ≤ L.length) {n c : Nat} (hn : t.length ≤ n) {K : Value → Heap → Prop}
    (hk : ∀ h', Fr (InA (some ad)) h h' → Row 1 bV h' (some ad) cap (L.take k ++ t ++ L.drop (k + t.length)) → K (.int .i64 t.length) h') :
    bltV Tryd.prog .copy #[T_sl_uint8, T_string] T_int #[false, false] #[.slice (some (ad.add k)) n c, .string (bs t)] h K := by
  obtain ⟨⟨h1, h2, ds, T, fr, hfr, hg, hc1, hc2, hc3⟩, hle⟩ := R
  rw [bV_flat] at hc2 hc3
  rw [bytesV_len] at hc2
  have hc3 : ∀ i, i < L.length → ds[i]? = (bytesV L)[i]? := fun i hi => by rw [hc3 i (by rw [bytesV_len]; exact hi), List.getElem?_eq_getElem]
  refine bltV_value (s := Builtin.copy_ #[T_sl_uint8, T_string] T_int #[.slice (some (ad.add k)) n c, .string (bs t)]) rfl ?_
  unfold Builtin.copy_
  simp only [List.getElem?_toArray, List.getElem?_cons_zero, List.getElem?_cons_succ, bind]
  rw [wpH_bind]; refine wpH_underlying Tryd.underlying73 ?_
  simp only
  unfold Builtin.lenOf
  simp only [pure, Sem.bind]
  rw [wpH_bind]; refine wpH_size (by kernel_rfl) ?_
  have hz : sizeB Tryd.prog T_uint8 = 1 := by kernel_rfl
  have hsz : (bs t).size = t.length := bs_size t
  have hmin : Nat.min t.length n = t.length := Nat.min_eq_left hn
  rw [hz, hsz, hmin, wpH_bind]
  unfold Builtin.firstCells
  simp only [pure, wpH, Nat.mul_one]
  have hx : ((bs t).extract 0 t.length).data.map (fun b => Value.int .u8 b.toNat) = (bytesV t).toArray := by
    have : (bs t).extract 0 t.length = bs t := by rw [bs_extract]; simp
    rw [this]; apply Array.ext'; simp [bs, bytesV, byteV]
  rw [hx]
  rw [wpH_bind]
  have hadd : ∀ i, (ad.add k).add i = ⟨ad.block, k + i, none⟩ := fun i => by
    obtain ⟨b, o, s⟩ := ad
    simp only at h1 h2
    subst h1 h2
    rw [add_mk, add_mk, Nat.zero_add]
  refine wpH_store hadd (bytesV t) 0 _ h hg hfr (bytesV_cellV t) (by rw [bytesV_len]; omega) ?_
  simp only [wpH, goInt]
  have hlen : (L.take k ++ t ++ L.drop (k + t.length)).length = L.length := by simp; omega
  refine hk _ (Fr.set _ _ ⟨ad, rfl, rfl⟩) ⟨⟨h1, h2, _, T, fr, ?_, get_set hg, ?_, ?_, ?_⟩, ?_⟩
  · rw [splice_size]; exact hfr
  · rw [splice_size]; exact hc1
  · rw [bV_flat, bytesV_len, hlen, splice_size]; exact hc2
  · rw [bV_flat]
    intro i hi
    rw [bytesV_len, hlen] at hi
    rw [splice_get _ _ _ (by rw [bytesV_len]; omega), bytesV_len, Nat.add_zero, ← List.getElem?_eq_getElem]
    rw [bytesV_append, bytesV_append]
    have hlk : (bytesV (L.take k)).length = k := by rw [bytesV_len, List.length_take]; omega
    by_cases hik : k ≤ i ∧ i < k + t.length
    · rw [if_pos hik, List.getElem?_append_left (by rw [List.length_append, hlk, bytesV_len]; omega), List.getElem?_append_right (by omega), hlk]
    · rw [if_neg hik]
      have hold := hc3 i (by omega)
      rw [hold]
      by_cases hlt : i < k
      · rw [List.getElem?_append_left (by rw [List.length_append, hlk]; omega), List.getElem?_append_left (by omega)]
        unfold bytesV
        rw [List.getElem?_map, List.getElem?_map, List.getElem?_take, if_pos hlt]
      · rw [List.getElem?_append_right (by rw [List.length_append, hlk, bytesV_len]; omega), List.length_append, hlk, bytesV_len]
        unfold bytesV
        rw [List.getElem?_map, List.getElem?_map, List.getElem?_drop]
        congr 2; omega
  · rw [hlen]; exact hle
end Go.Proofs.YtmjbcnbjedipdaaDoor
/-!
  The program's writer: the content of a record.
-/
namespace Go.Proofs.YtmjbcnbjedipdaaDoor
set_option linter.unusedSimpArgs false
set_option linter.unusedVariables false
set_option maxRecDepth 20000
open Go
open Go.IntKind (wrap)
theorem nameW_len (short : Bool) : ∀ (n : Nat) (s out : Nm) (S : List (Nm × Nat)), s.length ≤ n → out.length + 1 ≤ (nameW short s out S).1.length ∧ (nameW short s out S).1.length ≤ out.length + 2 * s.length + 2 := by
  intro n
  induction n with
  | zero =>
    intro s out S hs
    have : s = [] := List.length_eq_zero_iff.1 (by omega)
    subst this
    rw [nameW_nil, List.length_append, beB_len]; simp
  | succ n ih =>
    intro s out S hs
    by_cases h : s = []
    · subst h; rw [nameW_nil, List.length_append, beB_len]; simp
    · cases hl : (if short = true then lookN S s else none) with
      | some a => rw [nameW_hit h hl, List.length_append, beB_len]; omega
      | none =>
        rw [nameW_miss h hl]
        have h1 := cut_rest s h
        have h2 := cut_two s h
        have := ih (cutDot s).2.1 (out ++ beB 1 (cutDot s).1.length ++ (cutDot s).1) (if short = true ∧ out.length < 16384 then S ++ [(s, out.length)] else S) (by omega)
        rw [List.length_append, List.length_append, beB_len] at this
        omega
def bodyW (short : Bool) (kind : Int) (s out : Nm) (S : List (Nm × Nat)) : Nm × List (Nm × Nat) :=
  if skipI kind < 0 then (out ++ beB 2 0 ++ s, S) else nameW short (lowL (s.drop (skipI kind).toNat)) (out ++ beB 2 0 ++ s.take (skipI kind).toNat) S
def dataW (short : Bool) (kind : Int) (s out : Nm) (S : List (Nm × Nat)) : Nm × List (Nm × Nat) :=
  ((bodyW short kind s out S).1.take out.length ++ beB 2 ((bodyW short kind s out S).1.length - out.length - 2) ++ (bodyW short kind s out S).1.drop (out.length + 2), (bodyW short kind s out S).2)
section
variable {ok : Nat → Prop} {h : Heap} {wb : Addr} {short : Bool} {S : List (Nm × Nat)} {out : Nm}
theorem wdata_b1 [Gh] (W : WF ok h wb short S out) (hok : ∀ b, h.size ≤ b → ok b) (at_ : Nat) (h1 : at_ + 2 ≤ out.length) (h2 : out.length - at_ - 2 < 65536) (hl : out.length ≤ 2 ^ 27) {Q : Value → Heap → Prop}
    (hk : ∀ h', Fr ok h h' → WF ok h' wb short S (out.take at_ ++ beB 2 (out.length - at_ - 2) ++ out.drop (at_ + 2)) → Q (.tuple #[]) h') : dns_writer_data_b1 (some wb) (at_ : Int) Q h := by
  unfold dns_writer_data_b1
  obtain ⟨p, c, mo, o, R, hp, hm, hn⟩ := W.ex
  have cc := o.cells
  obtain ⟨ad, hpa, _⟩ := R.cellsAt bV_len (by omega) 0 (by omega)
  subst hpa
  have hcap := R.le
  refine nn_mk (ldL_mk (cc.at0 rfl) ⟨by omega, by omega, ?_⟩)
  rw [Int.toNat_natCast, if_neg (by omega)]
  refine nn_mk (ldL_mk (cc.at0 rfl) ?_)
  have hw : wrap .i64 (wrap .i64 (((out.length : Nat) : Int) - (at_ : Int)) - 2) = ((out.length - at_ - 2 : Nat) : Int) := by
    rw [wr (x := ((out.length : Nat) : Int) - (at_ : Int)) (by omega) (by omega), wr (by omega) (by omega)]; omega
  rw [hw]
  refine put_c (out.length - at_ - 2) 2 (by omega) (by omega) (by omega) fun h3 f3 => ⟨_, rfl, ?_⟩
  refine ⟨ldL_mk ((cc.fr0 f3).at0 rfl) rfl, ?_⟩
  have e1 : at_ * 1 = at_ := by omega
  rw [e1]
  have z3 := f3.size
  refine copyAt (R.fr0 f3) at_ (beB 2 (out.length - at_ - 2)) (by rw [beB_len]; omega) (by rw [beB_len]; omega) fun h4 f4 R4 => ⟨_, rfl, ?_⟩
  rw [beB_len] at R4
  have hlen : (out.take at_ ++ beB 2 (out.length - at_ - 2) ++ out.drop (at_ + 2)).length = out.length := by simp [beB_len]; omega
  refine hk h4 ((f3.mono fun _ h => h.elim).trans (f4.mono fun b hb => (hp b hb).1)) ⟨⟨some ad, c, mo, ?_, R4, hp, fun hs => ?_, hn⟩, W.okw, W.off⟩
  · rw [hlen]; exact (o.fr0 f3).fr f4 fun h => (hp _ h).2 rfl
  · obtain ⟨r, e, I, g1, g2, g3⟩ := hm hs
    exact ⟨r, e, (I.fr f3 id).fr f4 g3, g1, g2, g3⟩
theorem wdata_c [Gh] (W : WF ok h wb short S out) (hok : ∀ b, h.size ≤ b → ok b) (kind : Int) (s : Nm) (hs : s.length ≤ 65535) (hsk : (skipI kind).toNat ≤ s.length) (hv : skipI kind < 0 ∨ okS (lowL (s.drop (skipI kind).toNat)) ∧ s.length ≤ 1000) (hl : out.length ≤ 2 ^ 24) (hSh : short = false → S = []) {Q : Value → Heap → Prop}
    (hk : ∀ h', Fr ok h h' → WF ok h' wb short (dataW short kind s out S).2 (dataW short kind s out S).1 → Q (.tuple #[]) h') : CallT Tryd.prog fn_dns_writer_data #[.pointer (some wb), .int .i64 kind, .string (bs s)] h Q := by
  apply dns_writer_data_s
  unfold dns_writer_data_v
  refine nn_mk (W.cell fun p0 c0 hc0 => ?_)
  refine wnum_c W hok (by omega) 0 2 (by omega) (by omega) (by omega) fun h1 f1 W1 => ⟨rfl, ?_⟩
  have z1 := f1.size
  have hok1 : ∀ b, h1.size ≤ b → ok b := fun b hb => hok b (by omega)
  have hl1 : (out ++ beB 2 0).length = out.length + 2 := by rw [List.length_append, beB_len]
  unfold dataW at hk
  -- the end
  have fin : ∀ {h2 : Heap}, Fr ok h1 h2 → WF ok h2 wb short (bodyW short kind s out S).2 (bodyW short kind s out S).1 → out.length + 2 ≤ (bodyW short kind s out S).1.length → (bodyW short kind s out S).1.length - out.length - 2 < 65536 → dns_writer_data_b1 (some wb) ((out.length : Nat) : Int) Q h2 := fun {h2} f2 W2 g1 g2 => by
    have z2 := f2.size
    exact wdata_b1 W2 (fun b hb => hok1 b (by omega)) out.length g1 g2 (by omega) fun h3 f3 W3 => hk h3 ((f1.trans f2).trans f3) W3
  have raw : skipI kind < 0 → dns_writer_data_b2 (some wb) (bs s) ((out.length : Nat) : Int) Q h1 := fun hneg => by
    have eb : bodyW short kind s out S = (out ++ beB 2 0 ++ s, S) := by unfold bodyW; rw [if_pos hneg]
    rw [eb] at fin
    unfold dns_writer_data_b2
    refine nn_mk (W1.cell fun p c hc => ?_)
    refine W1.push hok1 (by omega) s (by omega) hc fun h2 f2 W2 => ?_
    refine fin f2 W2 ?_ ?_
    · dsimp only; rw [List.length_append, hl1]; omega
    · dsimp only; rw [List.length_append, hl1]; omega
  -- a name
  have nmd : ∀ {h2 : Heap}, ¬ skipI kind < 0 → Fr ok h1 h2 → WF ok h2 wb short S (out ++ beB 2 0 ++ s.take (skipI kind).toNat) → CallT Tryd.prog fn_dns_lower #[.string (bs (s.drop (skipI kind).toNat))] h2 fun v h6 => ∃ t47 : ByteArray, v = .string t47 ∧ CallT Tryd.prog fn_dns_writer_name #[.pointer (some wb), .string t47] h6 fun v h7 => v = .tuple #[] ∧ dns_writer_data_b1 (some wb) ((out.length : Nat) : Int) Q h7 := fun {h2} hneg f2 W2 => by
    have eb : bodyW short kind s out S = nameW short (lowL (s.drop (skipI kind).toNat)) (out ++ beB 2 0 ++ s.take (skipI kind).toNat) S := by unfold bodyW; rw [if_neg hneg]
    rw [eb] at fin
    obtain ⟨hv1, hv2⟩ := hv.resolve_left hneg
    have z2 := f2.size
    have hd : (s.drop (skipI kind).toNat).length = s.length - (skipI kind).toNat := List.length_drop
    have htk : (out ++ beB 2 0 ++ s.take (skipI kind).toNat).length = out.length + 2 + (skipI kind).toNat := by rw [List.length_append, hl1, List.length_take]; omega
    refine lower_c _ (by omega) fun h3 f3 => ⟨_, rfl, ?_⟩
    have z3 := f3.size
    have hnl := nameW_len short _ (lowL (s.drop (skipI kind).toNat)) (out ++ beB 2 0 ++ s.take (skipI kind).toNat) S (Nat.le_refl _)
    rw [lowL_len, hd, htk] at hnl
    refine wname_c (W2.fr0 f3) (fun b hb => hok1 b (by omega)) _ (by rw [lowL_len]; omega) hv1 (by omega) hSh fun h4 f4 W4 => ⟨rfl, ?_⟩
    refine fin ((f2.trans (f3.mono fun _ h => h.elim)).trans f4) W4 ?_ ?_
    · omega
    · omega
  have zero : skipI kind = 0 → CallT Tryd.prog fn_dns_lower #[.string (bs s)] h1 fun v h6 => ∃ t47 : ByteArray, v = .string t47 ∧ CallT Tryd.prog fn_dns_writer_name #[.pointer (some wb), .string t47] h6 fun v h7 => v = .tuple #[] ∧ dns_writer_data_b1 (some wb) ((out.length : Nat) : Int) Q h7 := fun h0 => by
    have := nmd (by omega) (Fr.refl _ _) (by rw [h0]; simpa using W1)
    rw [h0] at this
    exact this
  refine ifE (fun e => ?_) fun e => ?_
  · have h2 : skipI kind = 2 := by unfold skipI; rw [if_neg (by omega), if_pos e]
    have h2n : (skipI kind).toNat = 2 := by rw [h2]; rfl
    refine nn_mk (W1.cell fun p c hc => ?_)
    refine slT s 2 rfl (by omega) ?_
    refine W1.push hok1 (by omega) (s.take 2) (by rw [List.length_take]; omega) hc fun h3 f3 W3 => ?_
    refine slF s 2 rfl (by omega) ?_
    have := nmd (by omega) f3 (by rw [h2n]; exact W3)
    rw [h2n] at this
    exact this
  refine ifE (fun e2 => ?_) fun e2 => ?_
  · rw [if_pos (by simpa using e2)]
    exact zero (by unfold skipI; rw [if_pos (by omega)])
  refine ifE (fun e3 => ?_) fun e3 => ?_
  · rw [if_pos (by simpa using e3)]
    exact zero (by unfold skipI; rw [if_pos (by omega)])
  refine ifE (fun e4 => ?_) fun e4 => ?_
  · exact zero (by unfold skipI; rw [if_pos (by omega)])
  · exact raw (by unfold skipI; rw [if_neg (by omega), if_neg (by omega)]; decide)
end
end Go.Proofs.YtmjbcnbjedipdaaDoor
/-!
  The program's Encode and EncodeShort.
-/
namespace Go.Proofs.YtmjbcnbjedipdaaDoor
set_option linter.unusedSimpArgs false
set_option linter.unusedVariables false
set_option maxRecDepth 20000
open Go
open Go.IntKind (wrap)
theorem lowB_dot (b : UInt8) : lowB b = 46 ↔ b = 46 := by
  have h := lowB_if (b := b)
  have hb := byteI_le b
  constructor
  · intro e
    rw [e] at h
    have e46 : byteI 46 = 46 := rfl
    rw [e46] at h
    apply byteI_inj
    rw [e46]
    split at h <;> omega
  · intro e; subst e; rfl
theorem splitDot_low : ∀ l : Nm, splitDot (lowL l) = (splitDot l).map lowL
  | [] => rfl
  | c :: l => by
    have ih := splitDot_low l
    have e : lowL (c :: l) = lowB c :: lowL l := rfl
    rw [e]
    unfold splitDot
    by_cases h : c = 46
    · rw [if_pos h, if_pos ((lowB_dot c).2 h), ih]; rfl
    · rw [if_neg h, if_neg fun hh => h ((lowB_dot c).1 hh), ih]
      cases hs : splitDot l with
      | nil => rfl
      | cons x xs => rfl
theorem name_ok {n : Nm} (h : isNameB n = true) : n.length ≤ 253 ∧ okS (lowL n) := by
  unfold isNameB at h
  by_cases h0 : n = []
  · subst h0; exact ⟨by simp, .inl rfl⟩
  · rw [decide_eq_false h0, Bool.false_or] at h
    simp only [Bool.and_eq_true, decide_eq_true_eq, List.all_eq_true] at h
    refine ⟨h.1.1, .inr fun x hx => ?_⟩
    rw [splitDot_low] at hx
    obtain ⟨y, hy, rfl⟩ := List.mem_map.1 hx
    have := h.2 y hy
    unfold labelB at this
    simp only [Bool.and_eq_true, decide_eq_true_eq] at this
    rw [lowL_len]; exact this.1.2
theorem firstE_all {α : Type} {f : α → Int} : ∀ {l : List α}, firstE f l = 0 → ∀ x ∈ l, f x = 0
  | [], _, _, hx => by cases hx
  | y :: l, h, x, hx => by
    unfold firstE at h
    by_cases hy : f y ≠ 0
    · rw [if_pos hy] at h; exact absurd h hy
    · rw [if_neg hy] at h
      rcases List.mem_cons.1 hx with rfl | hx
      · omega
      · exact firstE_all h x hx
theorem word_ok {n : Int} (h : wordB n = true) : ∃ k : Nat, n = k ∧ k < 65536 := by
  unfold wordB at h
  rw [decide_eq_true_eq] at h
  exact ⟨n.toNat, by omega, by omega⟩
theorem qE_ok {q : Qu} (h : qE q = 0) : q.Name.length ≤ 253 ∧ okS (lowL q.Name) ∧ ∃ k : Nat, q.Type_ = k ∧ k < 65536 := by
  unfold qE at h
  split at h
  · exact absurd h (by decide)
  · rename_i h1
    split at h
    · exact absurd h (by decide)
    · rename_i h2
      have := name_ok (n := q.Name) (by simpa using h1)
      exact ⟨this.1, this.2, word_ok (by simpa using h2)⟩
theorem rE_ok {x : Re} (h : rE x = 0) : x.Name.length ≤ 253 ∧ okS (lowL x.Name) ∧ (∃ k : Nat, x.Type_ = k ∧ k < 65536) ∧ (∃ k : Nat, x.Ttl = k ∧ k < 4294967296) ∧ x.Data.length ≤ 65535 ∧ (skipI x.Type_).toNat ≤ x.Data.length ∧ (skipI x.Type_ < 0 ∨ okS (lowL (x.Data.drop (skipI x.Type_).toNat)) ∧ x.Data.length ≤ 1000) := by
  unfold rE at h
  split at h
  · exact absurd h (by decide)
  rename_i h1
  split at h
  · exact absurd h (by decide)
  rename_i h2
  split at h
  · exact absurd h (by decide)
  rename_i h3
  split at h
  · exact absurd h (by decide)
  rename_i h4
  have hn := name_ok (n := x.Name) (by simpa using h1)
  have hw : wordB x.Type_ = true := by
    cases hw : wordB x.Type_ with
    | true => rfl
    | false => exact absurd (.inl hw) h2
  have ht : ¬ x.Ttl < 0 ∧ ¬ x.Ttl > 4294967295 := ⟨fun h => h2 (.inr (.inl h)), fun h => h2 (.inr (.inr h))⟩
  have hsk : skipI x.Type_ = -1 ∨ skipI x.Type_ = 0 ∨ skipI x.Type_ = 2 := by unfold skipI; split <;> (try split) <;> omega
  refine ⟨hn.1, hn.2, word_ok hw, ⟨x.Ttl.toNat, by omega, by omega⟩, by omega, ?_⟩
  unfold namedB at h3
  by_cases hs : skipI x.Type_ < 0
  · exact ⟨by omega, .inl hs⟩
  · rw [if_neg hs] at h3
    simp only [Bool.and_eq_false_iff, not_or, Bool.not_eq_false, decide_eq_true_eq] at h3
    have hd := name_ok h3.2
    have hdl : (x.Data.drop (skipI x.Type_).toNat).length = x.Data.length - (skipI x.Type_).toNat := List.length_drop
    exact ⟨h3.1, .inr ⟨hd.2, by omega⟩⟩
def qW (short : Bool) (w : Nm × List (Nm × Nat)) (q : Qu) : Nm × List (Nm × Nat) :=
  ((nameW short (lowL q.Name) w.1 w.2).1 ++ beB 2 q.Type_.toNat ++ beB 2 1, (nameW short (lowL q.Name) w.1 w.2).2)
def rW (short : Bool) (w : Nm × List (Nm × Nat)) (x : Re) : Nm × List (Nm × Nat) :=
  dataW short x.Type_ x.Data ((nameW short (lowL x.Name) w.1 w.2).1 ++ beB 2 x.Type_.toNat ++ beB 2 1 ++ beB 4 x.Ttl.toNat) (nameW short (lowL x.Name) w.1 w.2).2
def headW (id fl : Int) (nq na : Nat) : Nm := beB 2 id.toNat ++ beB 2 fl.toNat ++ beB 2 nq ++ beB 2 na ++ beB 2 0 ++ beB 2 0
def msgW (short : Bool) (id fl : Int) (qs : List Qu) (rs : List Re) : Nm × List (Nm × Nat) := rs.foldl (rW short) (qs.foldl (qW short) (headW id fl qs.length rs.length, []))
def encS (short : Bool) (id fl : Int) (qs : List Qu) (rs : List Re) : Int × Nm :=
  if checkS id fl qs rs ≠ 0 then (checkS id fl qs rs, []) else if (msgW short id fl qs rs).1.length > 65535 then (3, []) else (0, (msgW short id fl qs rs).1)
theorem nameW_long : ∀ (n : Nat) (s out : Nm), s.length ≤ n → (nameW false s out []).2 = [] := by
  intro n
  induction n with
  | zero => intro s out hs; have : s = [] := List.length_eq_zero_iff.1 (by omega); subst this; rw [nameW_nil]
  | succ n ih =>
    intro s out hs
    by_cases h : s = []
    · subst h; rw [nameW_nil]
    · rw [nameW_miss h rfl, if_neg (by simp)]
      exact ih _ _ (by have := cut_rest s h; omega)
theorem qW_len (short : Bool) (w : Nm × List (Nm × Nat)) (q : Qu) (hq : q.Name.length ≤ 253) : w.1.length ≤ (qW short w q).1.length ∧ (qW short w q).1.length ≤ w.1.length + 70000 := by
  have := nameW_len short _ (lowL q.Name) w.1 w.2 (Nat.le_refl _)
  rw [lowL_len] at this
  unfold qW
  simp only [List.length_append, beB_len]; omega
theorem dataW_len (short : Bool) (k : Int) (s out : Nm) (S : List (Nm × Nat)) (hs : s.length ≤ 65535) (hk : skipI k < 0 ∨ s.length ≤ 1000) : out.length + 2 ≤ (dataW short k s out S).1.length ∧ (dataW short k s out S).1.length ≤ out.length + 66000 := by
  have hb : out.length + 2 ≤ (bodyW short k s out S).1.length ∧ (bodyW short k s out S).1.length ≤ out.length + 66000 := by
    unfold bodyW
    split
    · simp only [List.length_append, beB_len]; omega
    · have := nameW_len short _ (lowL (s.drop (skipI k).toNat)) (out ++ beB 2 0 ++ s.take (skipI k).toNat) S (Nat.le_refl _)
      simp only [List.length_append, beB_len, lowL_len, List.length_drop, List.length_take] at this
      omega
  unfold dataW
  simp only [List.length_append, beB_len, List.length_take, List.length_drop]; omega
end Go.Proofs.YtmjbcnbjedipdaaDoor
/-!
  The program's encode.
-/
namespace Go.Proofs.YtmjbcnbjedipdaaDoor
set_option linter.unusedSimpArgs false
set_option linter.unusedVariables false
set_option maxRecDepth 20000
open Go
open Go.IntKind (wrap)
theorem WF.to {ok ok' : Nat → Prop} {h : Heap} {wb : Addr} {short : Bool} {S : List (Nm × Nat)} {out : Nm} (W : WF ok h wb short S out) (h1 : ∀ b, b < h.size → ok b → ok' b) : WF ok' h wb short S out := by
  obtain ⟨p, c, mo, o, R, hp, hm, hn⟩ := W.ex
  exact ⟨⟨p, c, mo, o, R, fun b hb => ⟨h1 b (R.lt hb) (hp b hb).1, (hp b hb).2⟩, fun hs => by obtain ⟨r, e, I, g1, g2⟩ := hm hs; exact ⟨r, e, I, h1 r I.lt g1, g2⟩, hn⟩, h1 _ o.lt W.okw, W.off⟩
theorem foldl_take {α β : Type} (f : β → α → β) (b : β) (l : List α) (i : Nat) (hi : i < l.length) : (l.take (i + 1)).foldl f b = f ((l.take i).foldl f b) l[i] := by
  rw [show l.take (i + 1) = l.take i ++ [l[i]] by rw [List.take_append_getElem], List.foldl_append]; rfl
theorem flatB_len (l : List Nat) : (l.flatMap (beB 2)).length = 2 * l.length := by
  induction l with
  | nil => rfl
  | cons a l ih => rw [List.flatMap_cons, List.length_append, beB_len, ih, List.length_cons]; omega
theorem dataW_long (k : Int) (s out : Nm) : (dataW false k s out []).2 = [] := by
  show (bodyW false k s out []).2 = []
  unfold bodyW
  split
  · rfl
  · exact nameW_long _ _ _ (Nat.le_refl _)
theorem nat_toInt {n : Int} {k : Nat} (h : n = k) : n = ((n.toNat : Nat) : Int) := by omega
set_option maxHeartbeats 1000000 in
theorem encode_c [Gh] {h0 h : Heap} {id fl : Int} {u : Sl Qu} {w : Sl Re} {short : Bool} {mo : Option Nat} {Q : Value → Heap → Prop} (f0 : Fr (fun _ => False) h0 h) (ou : SlOk 2 S_api_DnsQuestion.vals S_api_DnsQuestion.ok h0 u) (ow : SlOk 4 S_api_DnsRecord.vals S_api_DnsRecord.ok h0 w)
    (hq : ∀ q ∈ u.xs, q.Name.length ≤ 2 ^ 20) (hr : ∀ r ∈ w.xs, r.Name.length ≤ 2 ^ 20 ∧ r.Data.length ≤ 2 ^ 20) (hm1 : short = true → ∃ r, mo = some r ∧ MapI strE h r [] ∧ h0.size ≤ r) (hm0 : short = false → mo = none)
    (hk : ∀ h', Fr (fun _ => False) h0 h' → Q (.tuple #[.string (bs (encS short id fl u.xs w.xs).2), .int .i64 (encS short id fl u.xs w.xs).1]) h') :
    CallT Tryd.prog fn_dns_encode #[.agg #[.int .i64 id, .int .i64 fl, .slice u.p u.xs.length u.cap, .slice w.p w.xs.length w.cap], .map mo] h Q := by
  apply dns_encode_s
  unfold dns_encode_v
  unfold encS at hk
  refine al_mk (vs := [.int .i64 id, .int .i64 fl, .slice u.p u.xs.length u.cap, .slice w.p w.xs.length w.cap]) fun t2 h1 f1 e1 o1 => ?_
  have c1 := o1.cells
  have z0 := f0.size
  have z1 := f1.size
  refine ldI_mk (c1.at0 rfl) (ldI_mk (c1.at (j := 1) rfl) (ldL_mk (c1.at (j := 2) rfl) (ldL_mk (c1.at (j := 3) rfl) ?_)))
  refine check_c (SlOk.fr0 S_api_DnsQuestion.ok_fr (f0.trans f1) ou) (SlOk.fr0 S_api_DnsRecord.ok_fr (f0.trans f1) ow) hq hr fun h2 f2 => ⟨_, rfl, ?_⟩
  have F2 := (f0.trans f1).trans f2
  have z2 := f2.size
  refine ifNe (fun e => ?_) fun e => ?_
  · rw [if_pos e] at hk
    exact hk h2 F2
  rw [if_neg (by simpa using e)] at hk
  -- what the check says
  have hck := e
  unfold checkS at hck
  split at hck
  · exact absurd hck (by decide)
  rename_i hn8
  split at hck
  · exact absurd hck (by decide)
  rename_i hwd
  split at hck
  · rename_i hqn; exact absurd hck hqn
  rename_i hqz
  have hqa := firstE_all (f := qE) (l := u.xs) (by omega)
  have hra := firstE_all (f := rE) (l := w.xs) hck
  obtain ⟨idn, hid, hidl⟩ := word_ok (n := id) (by cases hh : wordB id with | true => rfl | false => exact absurd (.inl hh) hwd)
  obtain ⟨fln, hfl, hfll⟩ := word_ok (n := fl) (by cases hh : wordB fl with | true => rfl | false => exact absurd (.inr hh) hwd)
  subst hid hfl
  clear hck e
  have c2 := (o1.fr0 f2).cells
  refine al_mk (vs := [.slice none 0 0, .map mo]) fun wb h3 f3 e3 o3 => ?_
  have c3 := c2.fr0 f3
  refine ldI_mk (c3.at0 rfl) (ldI_mk (c3.at (j := 1) rfl) (ldL_mk (c3.at (j := 2) rfl) (ldL_mk (c3.at (j := 3) rfl) ?_)))
  refine al_mk (vs := [idn, fln, u.xs.length, w.xs.length, 0, 0].map fun n : Nat => Value.int .i64 n) fun t32 h4 f4 e4 o4 => ?_
  have z3 := f3.size
  have z4 := f4.size
  have l1 := o1.lt
  have l3 := o3.lt
  have l4 := o4.lt
  have F4 := (F2.trans f3).trans f4
  have o14 := ((o1.fr0 f2).fr0 f3).fr0 f4
  -- the blocks of the writer
  have W4 : WF (fun b => h0.size ≤ b ∧ b ≠ t2.block ∧ b ≠ t32.block) h4 wb short [] [] := by
    refine ⟨⟨none, 0, mo, o3.fr0 f4, Row.nil, fun b hb => (notInA hb).elim, fun hs => ?_, hm0⟩, by omega, fun e he => by cases he⟩
    obtain ⟨r, e, I, g⟩ := hm1 hs
    have lr := I.lt
    exact ⟨r, e, (((I.fr f1 id).fr f2 id).fr f3 id).fr f4 id, by omega, by omega, fun h => (notInA h).elim⟩
  have hok4 : ∀ b, h4.size ≤ b → h0.size ≤ b ∧ b ≠ t2.block ∧ b ≠ t32.block := fun b hb => by omega
  have lift : ∀ {x : Heap}, Fr (fun b => h0.size ≤ b ∧ b ≠ t2.block ∧ b ≠ t32.block) h4 x → Fr (fun _ => False) h0 x := fun f => F4.tr f fun b hb hi => by omega
  have hnum : ∀ n ∈ [idn, fln, u.xs.length, w.xs.length, 0, 0], n < 65536 := by
    intro n hn
    simp only [List.mem_cons, List.not_mem_nil, or_false] at hn
    rcases hn with rfl | rfl | rfl | rfl | rfl | rfl <;> omega
  refine LoopV.go (fun n st h' => ∃ i : Nat, st = (i : Int) ∧ i ≤ 6 ∧ n = 6 - i ∧ Fr (fun b => h0.size ≤ b ∧ b ≠ t2.block ∧ b ≠ t32.block) h4 h' ∧ WF (fun b => h0.size ≤ b ∧ b ≠ t2.block ∧ b ≠ t32.block) h' wb short [] (([idn, fln, u.xs.length, w.xs.length, 0, 0].take i).flatMap (beB 2))) 6 ⟨0, rfl, by omega, rfl, Fr.refl _ _, W4⟩ ?_
  rintro n - h5 ⟨i, rfl, hi, rfl, f5, W5⟩ Kn hK
  have z5 := f5.size
  have hok5 : ∀ b, h5.size ≤ b → h0.size ≤ b ∧ b ≠ t2.block ∧ b ≠ t32.block := fun b hb => hok4 b (by omega)
  unfold dns_encode_l1
  refine ifD (fun e5 => ?_) fun e5 => ?_
  · have hi6 : i < 6 := by omega
    have hlt : i < [idn, fln, u.xs.length, w.xs.length, 0, 0].length := hi6
    have hc := ((o4.fr f5 fun h => h.2.2 rfl).cells).at (j := i) (v := .int .i64 ([idn, fln, u.xs.length, w.xs.length, 0, 0][i] : Nat)) (by rw [List.getElem?_map, List.getElem?_eq_getElem hlt]; rfl)
    refine idxA_mk i rfl hi6 (nn_mk ?_)
    rw [Int.toNat_natCast, Nat.mul_one]
    refine ldI_mk hc ?_
    have hlen : (([idn, fln, u.xs.length, w.xs.length, 0, 0].take i).flatMap (beB 2)).length ≤ 1000 := by
      rw [flatB_len, List.length_take]; omega
    refine wnum_c W5 hok5 (by omega) _ 2 (by omega) (by omega) (hnum _ (List.getElem_mem hlt)) fun h6 f6 W6 => ⟨rfl, ?_⟩
    rw [wr (by omega) (by omega)]
    refine hK (6 - (i + 1)) _ _ (by omega) ⟨i + 1, rfl, by omega, rfl, f5.trans f6, ?_⟩
    rw [show [idn, fln, u.xs.length, w.xs.length, 0, 0].take (i + 1) = [idn, fln, u.xs.length, w.xs.length, 0, 0].take i ++ [[idn, fln, u.xs.length, w.xs.length, 0, 0][i]] by rw [List.take_append_getElem], List.flatMap_append]
    simpa using W6
  have hi6 : i = 6 := by omega
  subst hi6
  have hhead : ([idn, fln, u.xs.length, w.xs.length, 0, 0].take 6).flatMap (beB 2) = headW idn fln u.xs.length w.xs.length := by
    unfold headW; simp [List.flatMap_cons]
  rw [hhead] at W5
  unfold dns_encode_b2
  have c5 := (o14.fr f5 fun h => h.2.1 rfl).cells
  refine ldL_mk (c5.at (j := 2) rfl) ?_
  have hhl : (headW idn fln u.xs.length w.xs.length).length = 12 := by unfold headW; simp only [List.length_append, beB_len]
  refine LoopV.go (fun n st h' => ∃ i : Nat, st = (i : Int) ∧ i ≤ u.xs.length ∧ n = u.xs.length - i ∧ Fr (fun b => h0.size ≤ b ∧ b ≠ t2.block ∧ b ≠ t32.block) h4 h' ∧ WF (fun b => h0.size ≤ b ∧ b ≠ t2.block ∧ b ≠ t32.block) h' wb short ((u.xs.take i).foldl (qW short) (headW idn fln u.xs.length w.xs.length, [])).2 ((u.xs.take i).foldl (qW short) (headW idn fln u.xs.length w.xs.length, [])).1 ∧ ((u.xs.take i).foldl (qW short) (headW idn fln u.xs.length w.xs.length, [])).1.length ≤ 12 + i * 70000 ∧ (short = false → ((u.xs.take i).foldl (qW short) (headW idn fln u.xs.length w.xs.length, [])).2 = [])) u.xs.length
    ⟨0, rfl, by omega, rfl, f5, W5, by show (headW _ _ _ _).length ≤ _; omega, fun _ => rfl⟩ ?_
  rintro n - h6 ⟨i, rfl, hiu, rfl, f6, W6, hl6, hS6⟩ Kn3 hK3
  have z6 := f6.size
  have F6 := lift f6
  unfold dns_encode_l3
  refine ifD (fun e6 => ?_) fun e6 => ?_
  · have hlt : i < u.xs.length := by omega
    have hq0 := qE_ok (hqa _ (List.getElem_mem hlt))
    have hfold := foldl_take (qW short) (headW idn fln u.xs.length w.xs.length, []) u.xs i hlt
    have hqlen := qW_len short ((u.xs.take i).foldl (qW short) (headW idn fln u.xs.length w.xs.length, [])) u.xs[i] hq0.1
    rw [← hfold] at hqlen
    refine idx_sl (SlOk.fr0 S_api_DnsQuestion.ok_fr F6 ou) i rfl hlt fun ad cc _ => ?_
    have cc : Cells h6 (ad.add (i * 2)) [.string (bs u.xs[i].Name), .int .i64 u.xs[i].Type_] := cc
    rw [Int.toNat_natCast]
    generalize (u.xs.take i).foldl (qW short) (headW idn fln u.xs.length w.xs.length, []) = st0 at *
    obtain ⟨hq1, hq2, kt, hkt, hktl⟩ := hq0
    refine ldS_mk (cc.at0 rfl) (ldI_mk (cc.at (j := 1) rfl) ?_)
    refine al_mk (vs := [.string (bs []), .int .i64 0]) fun t11 h7 f7 e7 o7 => ?_
    refine stN_own o7 (ws := [.string (bs u.xs[i].Name), .int .i64 u.xs[i].Type_]) (by rfl) (by rfl) fun h8 f8 z8 o8 => ?_
    have z7 := f7.size
    have z8' := f8.size
    have F8 : Fr (fun _ => False) h6 h8 := f7.tr f8 fun b hb hi => by omega
    have W8 : WF (fun b => (h0.size ≤ b ∧ b ≠ t2.block ∧ b ≠ t32.block) ∧ b ≠ t11.block) h8 wb short st0.2 st0.1 := (W6.to (ok' := fun b => (h0.size ≤ b ∧ b ≠ t2.block ∧ b ≠ t32.block) ∧ b ≠ t11.block) fun b hb h => ⟨h, by omega⟩).fr0 F8
    have l8 := o8.lt
    have hok8 : ∀ b, h8.size ≤ b → (h0.size ≤ b ∧ b ≠ t2.block ∧ b ≠ t32.block) ∧ b ≠ t11.block := fun b hb => by omega
    refine ldS_mk (o8.cells.at0 rfl) (lower_c _ (by omega) fun h9 f9 => ⟨_, rfl, ?_⟩)
    have z9 := f9.size
    have hnl := nameW_len short _ (lowL u.xs[i].Name) st0.1 st0.2 (Nat.le_refl _)
    rw [lowL_len] at hnl
    refine wname_c (W8.fr0 f9) (fun b hb => hok8 b (by omega)) _ (by rw [lowL_len]; omega) hq2 (by omega) hS6 fun h10 f10 W10 => ⟨rfl, ?_⟩
    have z10 := f10.size
    have o10 := (o8.fr0 f9).fr f10 fun h => h.2 rfl
    refine ldI_mk (o10.cells.at (j := 1) rfl) ?_
    rw [nat_toInt hkt]
    refine wnum_c W10 (fun b hb => hok8 b (by omega)) (by omega) u.xs[i].Type_.toNat 2 (by omega) (by omega) (by omega) fun h11 f11 W11 => ⟨rfl, ?_⟩
    have z11 := f11.size
    refine wnum_c W11 (fun b hb => hok8 b (by omega)) (by rw [List.length_append, beB_len]; omega) 1 2 (by omega) (by omega) (by omega) fun h12 f12 W12 => ⟨rfl, ?_⟩
    rw [wr (by omega) (by omega)]
    refine hK3 (u.xs.length - (i + 1)) _ _ (by omega) ⟨i + 1, rfl, hlt, rfl, ?_, ?_, ?_, ?_⟩
    · exact (f6.trans ((F8.trans f9).mono fun _ h => h.elim)).trans (((f10.trans f11).trans f12).mono fun b h => h.1)
    · rw [hfold]; exact W12.to fun b _ h => h.1
    · omega
    · intro hs
      rw [hfold]
      have := hS6 hs
      unfold qW
      dsimp only
      rw [this, hs]; exact nameW_long _ _ _ (Nat.le_refl _)
  have hiu' : i = u.xs.length := by omega
  subst hiu'
  rw [List.take_length] at W6 hl6 hS6
  unfold dns_encode_b4
  have c6 := (o14.fr f6 fun h => h.2.1 rfl).cells
  refine ldL_mk (c6.at (j := 3) rfl) ?_
  have hul : u.xs.length ≤ 8 := by omega
  unfold msgW at hk
  generalize u.xs.foldl (qW short) (headW idn fln u.xs.length w.xs.length, []) = st1 at *
  refine LoopV.go (fun n st h' => ∃ i : Nat, st = (i : Int) ∧ i ≤ w.xs.length ∧ n = w.xs.length - i ∧ Fr (fun b => h0.size ≤ b ∧ b ≠ t2.block ∧ b ≠ t32.block) h4 h' ∧ WF (fun b => h0.size ≤ b ∧ b ≠ t2.block ∧ b ≠ t32.block) h' wb short ((w.xs.take i).foldl (rW short) st1).2 ((w.xs.take i).foldl (rW short) st1).1 ∧ ((w.xs.take i).foldl (rW short) st1).1.length ≤ 600000 + i * 140000 ∧ (short = false → ((w.xs.take i).foldl (rW short) st1).2 = [])) w.xs.length
    ⟨0, rfl, by omega, rfl, f6, W6, by show st1.1.length ≤ _; omega, hS6⟩ ?_
  rintro n - h7 ⟨i, rfl, hiw, rfl, f7, W7, hl7, hS7⟩ Kn5 hK5
  have z7 := f7.size
  have F7 := lift f7
  unfold dns_encode_l5
  refine ifD (fun e6 => ?_) fun e6 => ?_
  · have hlt : i < w.xs.length := by omega
    have hr0 := rE_ok (hra _ (List.getElem_mem hlt))
    have hfold := foldl_take (rW short) st1 w.xs i hlt
    refine idx_sl (SlOk.fr0 S_api_DnsRecord.ok_fr F7 ow) i rfl hlt fun ad cc _ => ?_
    have cc : Cells h7 (ad.add (i * 4)) [.string (bs w.xs[i].Name), .int .i64 w.xs[i].Type_, .int .i64 w.xs[i].Ttl, .string (bs w.xs[i].Data)] := cc
    rw [Int.toNat_natCast]
    generalize (w.xs.take i).foldl (rW short) st1 = st0 at *
    generalize w.xs[i] = x at *
    obtain ⟨hq1, hq2, ⟨kt, hkt, hktl⟩, ⟨kl, hkl, hkll⟩, hdl, hsk, hdv⟩ := hr0
    refine ldS_mk (cc.at0 rfl) (ldI_mk (cc.at (j := 1) rfl) (ldI_mk (cc.at (j := 2) rfl) (ldS_mk (cc.at (j := 3) rfl) ?_)))
    refine al_mk (vs := [.string (bs []), .int .i64 0, .int .i64 0, .string (bs [])]) fun t11 h8' f8' e8 o8' => ?_
    refine stN_own o8' (ws := [.string (bs x.Name), .int .i64 x.Type_, .int .i64 x.Ttl, .string (bs x.Data)]) (by rfl) (by rfl) fun h8 f8 z8 o8 => ?_
    have z7' := f8'.size
    have z8' := f8.size
    have F8 : Fr (fun _ => False) h7 h8 := f8'.tr f8 fun b hb hi => by omega
    have W8 : WF (fun b => (h0.size ≤ b ∧ b ≠ t2.block ∧ b ≠ t32.block) ∧ b ≠ t11.block) h8 wb short st0.2 st0.1 := (W7.to (ok' := fun b => (h0.size ≤ b ∧ b ≠ t2.block ∧ b ≠ t32.block) ∧ b ≠ t11.block) fun b hb h => ⟨h, by omega⟩).fr0 F8
    have l8 := o8.lt
    have hok8 : ∀ b, h8.size ≤ b → (h0.size ≤ b ∧ b ≠ t2.block ∧ b ≠ t32.block) ∧ b ≠ t11.block := fun b hb => by omega
    have hil : i < 32 := by omega
    refine ldS_mk (o8.cells.at0 rfl) (lower_c _ (by omega) fun h9 f9 => ⟨_, rfl, ?_⟩)
    have z9 := f9.size
    have hnl := nameW_len short _ (lowL x.Name) st0.1 st0.2 (Nat.le_refl _)
    rw [lowL_len] at hnl
    refine wname_c (W8.fr0 f9) (fun b hb => hok8 b (by omega)) _ (by rw [lowL_len]; omega) hq2 (by omega) hS7 fun h10 f10 W10 => ⟨rfl, ?_⟩
    have z10 := f10.size
    have o10 := (o8.fr0 f9).fr f10 fun h => h.2 rfl
    refine ldI_mk (o10.cells.at (j := 1) rfl) ?_
    have hT := nat_toInt hkt
    have hL := nat_toInt hkl
    rw [hT]
    refine wnum_c W10 (fun b hb => hok8 b (by omega)) (by omega) x.Type_.toNat 2 (by omega) (by omega) (by omega) fun h11 f11 W11 => ⟨rfl, ?_⟩
    have z11 := f11.size
    refine wnum_c W11 (fun b hb => hok8 b (by omega)) (by rw [List.length_append, beB_len]; omega) 1 2 (by omega) (by omega) (by omega) fun h12 f12 W12 => ⟨rfl, ?_⟩
    have z12 := f12.size
    have o12 := (o10.fr f11 fun h => h.2 rfl).fr f12 fun h => h.2 rfl
    refine ldI_mk (o12.cells.at (j := 2) rfl) ?_
    rw [hL]
    refine wnum_c W12 (fun b hb => hok8 b (by omega)) (by simp only [List.length_append, beB_len]; omega) x.Ttl.toNat 4 (by omega) (by omega) (by omega) fun h13 f13 W13 => ⟨rfl, ?_⟩
    have z13 := f13.size
    have o13 := o12.fr f13 fun h => h.2 rfl
    refine ldI_mk (o13.cells.at (j := 1) rfl) (ldS_mk (o13.cells.at (j := 3) rfl) ?_)
    have hS1 : short = false → (nameW short (lowL x.Name) st0.1 st0.2).2 = [] := fun hs => by rw [hS7 hs, hs]; exact nameW_long _ _ _ (Nat.le_refl _)
    have hdlen := dataW_len short x.Type_ x.Data ((nameW short (lowL x.Name) st0.1 st0.2).1 ++ beB 2 x.Type_.toNat ++ beB 2 1 ++ beB 4 x.Ttl.toNat) (nameW short (lowL x.Name) st0.1 st0.2).2 hdl (hdv.imp id fun h => h.2)
    simp only [List.length_append, beB_len] at hdlen
    refine wdata_c W13 (fun b hb => hok8 b (by omega)) x.Type_ x.Data hdl hsk hdv (by simp only [List.length_append, beB_len]; omega) hS1 fun h14 f14 W14 => ⟨rfl, ?_⟩
    rw [wr (by omega) (by omega)]
    refine hK5 (w.xs.length - (i + 1)) _ _ (by omega) ⟨i + 1, rfl, hlt, rfl, ?_, ?_, ?_, ?_⟩
    · exact (f7.trans ((F8.trans f9).mono fun _ h => h.elim)).trans (((((f10.trans f11).trans f12).trans f13).trans f14).mono fun b h => h.1)
    · rw [hfold]; exact W14.to fun b _ h => h.1
    · rw [hfold]; unfold rW; omega
    · intro hs
      rw [hfold]
      unfold rW
      rw [hS1 hs, hs]; exact dataW_long _ _ _
  have hiw' : i = w.xs.length := by omega
  subst hiw'
  rw [List.take_length] at W7 hl7 hS7
  generalize w.xs.foldl (rW short) st1 = st2 at *
  unfold dns_encode_b6
  refine W7.cell fun p c hc => ?_
  refine ifD (fun e8 => ?_) fun e8 => ?_
  · rw [if_pos (by omega)] at hk
    exact hk h7 F7
  · rw [if_neg (by omega)] at hk
    obtain ⟨p2, c2, mo2, o, R, _⟩ := W7.ex
    refine ldL_mk (o.cells.at0 rfl) (conv8 R ⟨_, rfl, hk h7 F7⟩)
end Go.Proofs.YtmjbcnbjedipdaaDoor
/-!
  The program's Encode and EncodeShort, as they are called.
-/
namespace Go.Proofs.YtmjbcnbjedipdaaDoor
set_option linter.unusedSimpArgs false
set_option linter.unusedVariables false
set_option maxRecDepth 20000
open Go
open Go.IntKind (wrap)
def encV (short : Bool) (id fl : Int) (qs : List Qu) (rs : List Re) : Value := .tuple #[.string (bs (encS short id fl qs rs).2), .int .i64 (encS short id fl qs rs).1]
section
variable {h : Heap} {id fl : Int} {u : Sl Qu} {w : Sl Re} {Q : Value → Heap → Prop}
theorem Encode_c [Gh] (ou : SlOk 2 S_api_DnsQuestion.vals S_api_DnsQuestion.ok h u) (ow : SlOk 4 S_api_DnsRecord.vals S_api_DnsRecord.ok h w) (hq : ∀ q ∈ u.xs, q.Name.length ≤ 2 ^ 20) (hr : ∀ r ∈ w.xs, r.Name.length ≤ 2 ^ 20 ∧ r.Data.length ≤ 2 ^ 20)
    (hk : ∀ h', Fr (fun _ => False) h h' → Q (encV false id fl u.xs w.xs) h') : CallT Tryd.prog fn_dns_Encode #[.agg #[.int .i64 id, .int .i64 fl, .slice u.p u.xs.length u.cap, .slice w.p w.xs.length w.cap]] h Q := by
  apply dns_Encode_s
  unfold dns_Encode_v
  refine al_mk (vs := [.int .i64 id, .int .i64 fl, .slice u.p u.xs.length u.cap, .slice w.p w.xs.length w.cap]) fun t1 h1 f1 e1 o1 => ?_
  have c := o1.cells
  refine ldI_mk (c.at0 rfl) (ldI_mk (c.at (j := 1) rfl) (ldL_mk (c.at (j := 2) rfl) (ldL_mk (c.at (j := 3) rfl) ?_)))
  exact encode_c (short := false) f1 ou ow hq hr (fun h => by cases h) (fun _ => rfl) fun h2 f2 => ⟨_, _, rfl, hk h2 f2⟩
theorem EncodeShort_c [Gh] (ou : SlOk 2 S_api_DnsQuestion.vals S_api_DnsQuestion.ok h u) (ow : SlOk 4 S_api_DnsRecord.vals S_api_DnsRecord.ok h w) (hq : ∀ q ∈ u.xs, q.Name.length ≤ 2 ^ 20) (hr : ∀ r ∈ w.xs, r.Name.length ≤ 2 ^ 20 ∧ r.Data.length ≤ 2 ^ 20)
    (hk : ∀ h', Fr (fun _ => False) h h' → Q (encV true id fl u.xs w.xs) h') : CallT Tryd.prog fn_dns_EncodeShort #[.agg #[.int .i64 id, .int .i64 fl, .slice u.p u.xs.length u.cap, .slice w.p w.xs.length w.cap]] h Q := by
  apply dns_EncodeShort_s
  unfold dns_EncodeShort_v
  refine al_mk (vs := [.int .i64 id, .int .i64 fl, .slice u.p u.xs.length u.cap, .slice w.p w.xs.length w.cap]) fun t1 h1 f1 e1 o1 => ?_
  have c := o1.cells
  have z1 := f1.size
  refine ldI_mk (c.at0 rfl) (ldI_mk (c.at (j := 1) rfl) (ldL_mk (c.at (j := 2) rfl) (ldL_mk (c.at (j := 3) rfl) ?_)))
  refine mkMap_mk strE fun r h2 f2 e2 I2 => ?_
  exact encode_c (short := true) (f1.trans f2) ou ow hq hr (fun _ => ⟨r, rfl, I2, by omega⟩) (fun h => by cases h) fun h3 f3 => ⟨_, _, rfl, hk h3 f3⟩
end
end Go.Proofs.YtmjbcnbjedipdaaDoor
/-!
  The reference's writer: the places of suffixes.
-/
namespace Go.Proofs.YtmjbcnbjedipdaaDoor
set_option linter.unusedSimpArgs false
set_option linter.unusedVariables false
set_option maxRecDepth 20000
open Go
open Go.IntKind (wrap)
def plV (e : Nm × Nat) : List Value := [.string (bs e.1), .int .i64 e.2]
theorem plV_len (e : Nm × Nat) : (plV e).length = 2 := rfl
def findP (P : List (Nm × Nat)) (s : Nm) : Option Nat := (P.find? fun e => decide (e.1 = s ∧ e.2 < 16384)).map (·.2)
def findI (P : List (Nm × Nat)) (s : Nm) : Int := match findP P s with
  | some n => n
  | none => -1
theorem findP_cons (e : Nm × Nat) (P : List (Nm × Nat)) (s : Nm) : findP (e :: P) s = if e.1 = s ∧ e.2 < 16384 then some e.2 else findP P s := by
  unfold findP
  rw [List.find?_cons]
  by_cases h : e.1 = s ∧ e.2 < 16384
  · rw [decide_eq_true h, if_pos h]; rfl
  · rw [decide_eq_false h, if_neg h]
theorem find_c [Gh] {h : Heap} {wb : Addr} {out : Nm} {short : Bool} {p : Option Addr} {c : Nat} {P : List (Nm × Nat)} (o : Own h wb [.string (bs out), .bool short, .slice p P.length c] T_intrusionref29_writer) (R : Row 2 plV h p c P) (hl : P.length ≤ 2 ^ 30) (s : Nm) {Q : Value → Heap → Prop}
    (hk : Q (.int .i64 (findI P s)) h) : CallT Tryd.prog fn_ref29_writer_find #[.pointer (some wb), .string (bs s)] h Q := by
  apply ref29_writer_find_s
  unfold ref29_writer_find_v
  have cc := o.cells
  obtain ⟨m14, hm14⟩ : ∃ m : Int, m = 16384 := ⟨_, rfl⟩
  refine LoopV.go (fun n st h' => ∃ i : Nat, st = (i : Int) ∧ i ≤ P.length ∧ n = P.length - i ∧ h' = h ∧ findP P s = findP (P.drop i) s) P.length ⟨0, rfl, by omega, rfl, rfl, rfl⟩ ?_
  rintro n - h1 ⟨i, rfl, hi, rfl, rfl, hf⟩ Kn hK
  unfold ref29_writer_find_l1
  refine nn_mk (ldL_mk (cc.at (j := 2) rfl) (ifD (fun e => ?_) fun e => ?_))
  · have hlt : i < P.length := by omega
    rw [List.drop_eq_getElem_cons hlt, findP_cons] at hf
    obtain ⟨ad, hp, ce⟩ := R.cellsAt plV_len (by omega) i hlt
    have ix : ∀ {K : Addr → Prop}, K ad → idxA (i : Int) P.length (nn p fun a => K a) := fun hK => idxA_mk i rfl hlt (by rw [hp]; exact nn_mk hK)
    have ce : Cells h1 (ad.add (i * 2)) [.string (bs P[i].1), .int .i64 P[i].2] := ce
    generalize P[i] = x at *
    have next : ¬ (x.1 = s ∧ x.2 < 16384) → Kn (wrap .i64 ((i : Int) + 1)) h1 := fun hn => by
      rw [if_neg hn] at hf
      rw [wr (by omega) (by omega)]
      exact hK (P.length - (i + 1)) _ _ (by omega) ⟨i + 1, rfl, hlt, rfl, rfl, hf⟩
    refine nn_mk (ldL_mk (cc.at (j := 2) rfl) (ix ?_))
    rw [Int.toNat_natCast]
    refine ldS_mk (ce.at0 rfl) (ifS (fun e2 => ?_) fun e2 => next fun h => e2 h.1)
    refine nn_mk (ldL_mk (cc.at (j := 2) rfl) (ix ?_))
    refine ldI_mk (ce.at (j := 1) rfl) ?_
    rw [← hm14]
    refine ifD (fun e3 => ?_) fun e3 => next fun h => e3 (by omega)
    refine nn_mk (ldL_mk (cc.at (j := 2) rfl) (ix (ldI_mk (ce.at (j := 1) rfl) ?_)))
    rw [if_pos ⟨e2, by omega⟩] at hf
    unfold findI at hk
    rw [hf] at hk
    exact hk
  · rw [List.drop_eq_nil_of_le (by omega)] at hf
    unfold findI at hk
    rw [hf] at hk
    exact hk
end Go.Proofs.YtmjbcnbjedipdaaDoor
/-!
  The reference's writer: memory; places joined.
-/
namespace Go.Proofs.YtmjbcnbjedipdaaDoor
set_option linter.unusedSimpArgs false
set_option linter.unusedVariables false
set_option maxRecDepth 20000
open Go
open Go.IntKind (wrap)
theorem el_pl : ElemT Tryd.prog T_sl_intrusionref29_place T_intrusionref29_place Tryd.t103 (.agg #[.string ⟨#[]⟩, .int .i64 0]) := ⟨Tryd.underlying92, by kernel_rfl, by kernel_rfl, by kernel_rfl, by decide +kernel⟩
theorem appP1 [Gh] {h : Heap} {p : Option Addr} {cap : Nat} {L : List (Nm × Nat)} (R : Row 2 plV h p cap L) {e : Nm × Nat} {b : Addr} {T : TypeId} (ob : Own h b (plV e) T) (hl : L.length ≤ 2 ^ 29) {K : Value → Heap → Prop}
    (hk : ∀ p' cap' h', Row 2 plV h' p' cap' (L ++ [e]) → Fr (InA p) h h' → (∀ b, InA p' b → InA p b ∨ h.size ≤ b) → K (.slice p' (L ++ [e]).length cap') h') :
    bltV Tryd.prog .append #[T_sl_intrusionref29_place, T_sl_intrusionref29_place] T_sl_intrusionref29_place #[false, false] #[.slice p L.length cap, .slice (some b) 1 1] h K :=
  R.app el_pl Tryd.underlying92 (by intro k e; cases e) (by kernel_rfl) (by decide +kernel) plV_len (fun _ => rfl) ob 1 hl hk
theorem appPL [Gh] {h : Heap} {p q : Option Addr} {cap qc : Nat} {L M : List (Nm × Nat)} (R : Row 2 plV h p cap L) (R2 : Row 2 plV h q qc M) (hl : L.length + M.length ≤ 2 ^ 30) {K : Value → Heap → Prop}
    (hk : ∀ p' cap' h', Row 2 plV h' p' cap' (L ++ M) → Fr (InA p) h h' → (∀ b, InA p' b → InA p b ∨ h.size ≤ b) → K (.slice p' (L ++ M).length cap') h') :
    bltV Tryd.prog .append #[T_sl_intrusionref29_place, T_sl_intrusionref29_place] T_sl_intrusionref29_place #[false, false] #[.slice p L.length cap, .slice q M.length qc] h K :=
  R.appL el_pl Tryd.underlying92 (by intro k e; cases e) (by kernel_rfl) (by decide +kernel) plV_len (fun _ => rfl) (R2.src plV_len (by omega)) hl hk
theorem findP_append (P M : List (Nm × Nat)) (s : Nm) : findP (P ++ M) s = (findP P s).or (findP M s) := by
  induction P with
  | nil => rfl
  | cons e P ih =>
    rw [List.cons_append, findP_cons, findP_cons, ih]
    split <;> rfl
theorem lookN_cons (e : Nm × Nat) (P : List (Nm × Nat)) (s : Nm) : lookN (e :: P) s = if e.1 = s then some e.2 else lookN P s := by
  unfold lookN
  rw [List.find?_cons]
  by_cases h : e.1 = s
  · rw [decide_eq_true h, if_pos h]; rfl
  · rw [decide_eq_false h, if_neg h]
theorem lookN_append (P M : List (Nm × Nat)) (s : Nm) : lookN (P ++ M) s = (lookN P s).or (lookN M s) := by
  induction P with
  | nil => rfl
  | cons e P ih =>
    rw [List.cons_append, lookN_cons, lookN_cons, ih]
    split <;> rfl
theorem lookN_filter (M : List (Nm × Nat)) (s : Nm) : lookN (M.filter fun e => decide (e.2 < 16384)) s = findP M s := by
  induction M with
  | nil => rfl
  | cons e M ih =>
    rw [findP_cons, List.filter_cons]
    by_cases h : e.2 < 16384
    · rw [decide_eq_true h, if_pos rfl, lookN_cons, ih]
      by_cases h2 : e.1 = s
      · rw [if_pos h2, if_pos ⟨h2, h⟩]
      · rw [if_neg h2, if_neg fun h3 => h2 h3.1]
    · rw [decide_eq_false h, if_neg Bool.false_ne_true, ih, if_neg fun h3 => h h3.2]
theorem lookN_len {M : List (Nm × Nat)} {s : Nm} (h : ∀ e ∈ M, s.length < e.1.length) : lookN M s = none := by
  cases hl : lookN M s with
  | none => rfl
  | some n => have := h _ (lookN_mem hl); simp only at this; omega
end Go.Proofs.YtmjbcnbjedipdaaDoor
/-!
  The law's comparison of equal messages.
-/
namespace Go.Proofs.YtmjbcnbjedipdaaDoor
set_option linter.unusedSimpArgs false
set_option linter.unusedVariables false
set_option maxRecDepth 20000
open Go
open Go.IntKind (wrap)
theorem same_c [Gh] {h : Heap} {m : Msg} {p1 p2 q1 q2 : Option Addr} {c1 c2 d1 d2 : Nat} (R1 : Row 2 S_api_DnsQuestion.vals h p1 c1 m.qs) (R2 : Row 4 S_api_DnsRecord.vals h p2 c2 m.rs) (R3 : Row 2 S_api_DnsQuestion.vals h q1 d1 m.qs) (R4 : Row 4 S_api_DnsRecord.vals h q2 d2 m.rs) (hq : m.qs.length ≤ 2 ^ 30) (hr : m.rs.length ≤ 2 ^ 30) {Q : Value → Heap → Prop}
    (hk : ∀ h', Fr (fun _ => False) h h' → Q (.bool true) h') : CallT Tryd.prog fn_law29_same #[.agg #[.int .i64 m.Id, .int .i64 m.Flags, .slice p1 m.qs.length c1, .slice p2 m.rs.length c2], .agg #[.int .i64 m.Id, .int .i64 m.Flags, .slice q1 m.qs.length d1, .slice q2 m.rs.length d2]] h Q := by
  apply law29_same_s
  unfold law29_same_v
  refine al_mk (vs := [.int .i64 m.Id, .int .i64 m.Flags, .slice p1 m.qs.length c1, .slice p2 m.rs.length c2]) fun a h1 f1 e1 o1 => ?_
  refine al_mk (vs := [.int .i64 m.Id, .int .i64 m.Flags, .slice q1 m.qs.length d1, .slice q2 m.rs.length d2]) fun b h2 f2 e2 o2 => ?_
  have F := f1.trans f2
  have ca := (o1.fr0 f2).cells
  have cb := o2.cells
  have R1 := R1.fr0 F
  have R2 := R2.fr0 F
  have R3 := R3.fr0 F
  have R4 := R4.fr0 F
  refine ldI_mk (ca.at0 rfl) (ldI_mk (cb.at0 rfl) (ifNe (fun h => absurd rfl h) fun _ => ?_))
  refine ldI_mk (ca.at (j := 1) rfl) (ldI_mk (cb.at (j := 1) rfl) (ifNe (fun h => absurd rfl h) fun _ => ?_))
  refine ldL_mk (ca.at (j := 2) rfl) (ldL_mk (cb.at (j := 2) rfl) (ifNe (fun h => absurd rfl h) fun _ => ?_))
  refine ldL_mk (ca.at (j := 3) rfl) (ldL_mk (cb.at (j := 3) rfl) (ifNe (fun h => absurd rfl h) fun _ => ?_))
  refine ldL_mk (ca.at (j := 2) rfl) ?_
  refine LoopV.go (fun n st h' => ∃ i : Nat, st = (i : Int) ∧ i ≤ m.qs.length ∧ n = m.qs.length - i ∧ h' = h2) m.qs.length ⟨0, rfl, by omega, rfl, rfl⟩ ?_
  rintro n - h3 ⟨i, rfl, hi, rfl, rfl⟩ Kn hK
  unfold law29_same_l1
  refine ifD (fun e => ?_) fun e => ?_
  · have hlt : i < m.qs.length := by omega
    refine ldL_mk (ca.at (j := 2) rfl) (R1.idx qu_len (by omega) i rfl hlt fun ad ce => ?_)
    rw [Int.toNat_natCast]
    have ce : Cells h3 (ad.add (i * 2)) [.string (bs m.qs[i].Name), .int .i64 m.qs[i].Type_] := ce
    refine ldS_mk (ce.at0 rfl) (ldI_mk (ce.at (j := 1) rfl) ?_)
    refine ldL_mk (cb.at (j := 2) rfl) (R3.idx qu_len (by omega) i rfl hlt fun ad ce => ?_)
    have ce : Cells h3 (ad.add (i * 2)) [.string (bs m.qs[i].Name), .int .i64 m.qs[i].Type_] := ce
    refine ldS_mk (ce.at0 rfl) (ldI_mk (ce.at (j := 1) rfl) ?_)
    rw [bs_beq, if_neg (by simp), wr (by omega) (by omega)]
    exact hK (m.qs.length - (i + 1)) _ _ (by omega) ⟨i + 1, rfl, hlt, rfl, rfl⟩
  unfold law29_same_b2
  refine ldL_mk (ca.at (j := 3) rfl) ?_
  refine LoopV.go (fun n st h' => ∃ i : Nat, st = (i : Int) ∧ i ≤ m.rs.length ∧ n = m.rs.length - i ∧ h' = h3) m.rs.length ⟨0, rfl, by omega, rfl, rfl⟩ ?_
  rintro n - h4 ⟨i, rfl, hi, rfl, rfl⟩ Kn hK
  unfold law29_same_l3
  refine ifD (fun e => ?_) fun e => ?_
  · have hlt : i < m.rs.length := by omega
    refine ldL_mk (ca.at (j := 3) rfl) (R2.idx re_len (by omega) i rfl hlt fun ad ce => ?_)
    rw [Int.toNat_natCast]
    have ce : Cells h4 (ad.add (i * 4)) [.string (bs m.rs[i].Name), .int .i64 m.rs[i].Type_, .int .i64 m.rs[i].Ttl, .string (bs m.rs[i].Data)] := ce
    refine ldS_mk (ce.at0 rfl) (ldI_mk (ce.at (j := 1) rfl) (ldI_mk (ce.at (j := 2) rfl) (ldS_mk (ce.at (j := 3) rfl) ?_)))
    refine ldL_mk (cb.at (j := 3) rfl) (R4.idx re_len (by omega) i rfl hlt fun ad ce => ?_)
    have ce : Cells h4 (ad.add (i * 4)) [.string (bs m.rs[i].Name), .int .i64 m.rs[i].Type_, .int .i64 m.rs[i].Ttl, .string (bs m.rs[i].Data)] := ce
    refine ldS_mk (ce.at0 rfl) (ldI_mk (ce.at (j := 1) rfl) (ldI_mk (ce.at (j := 2) rfl) (ldS_mk (ce.at (j := 3) rfl) ?_)))
    rw [bs_beq, bs_beq, if_neg (by simp), wr (by omega) (by omega)]
    exact hK (m.rs.length - (i + 1)) _ _ (by omega) ⟨i + 1, rfl, hlt, rfl, rfl⟩
  · exact hk _ F
end Go.Proofs.YtmjbcnbjedipdaaDoor
/-!
  The messages of a connection: Feed of the program and of the reference.
-/
namespace Go.Proofs.YtmjbcnbjedipdaaDoor
set_option linter.unusedSimpArgs false
set_option linter.unusedVariables false
set_option maxRecDepth 20000
open Go
open Go.IntKind (wrap)
/-- The messages that are complete, what remains, and whether a length is too small. -/
def feedS (s : Nm) : List Nm × Nm × Bool :=
  if s.length < 2 then ([], s, false)
  else if num s 0 2 < 12 then ([], s, true)
  else if s.length < 2 + num s 0 2 then ([], s, false)
  else ((s.drop 2).take (num s 0 2) :: (feedS (s.drop (2 + num s 0 2))).1, (feedS (s.drop (2 + num s 0 2))).2)
termination_by s.length
decreasing_by all_goals (rw [List.length_drop]; omega)
theorem feedS_short {s : Nm} (h : s.length < 2) : feedS s = ([], s, false) := by rw [feedS, if_pos h]
theorem feedS_bad {s : Nm} (h : ¬ s.length < 2) (h2 : num s 0 2 < 12) : feedS s = ([], s, true) := by rw [feedS, if_neg h, if_pos h2]
theorem feedS_wait {s : Nm} (h : ¬ s.length < 2) (h2 : ¬ num s 0 2 < 12) (h3 : s.length < 2 + num s 0 2) : feedS s = ([], s, false) := by rw [feedS, if_neg h, if_neg h2, if_pos h3]
theorem feedS_go {s : Nm} (h : ¬ s.length < 2) (h2 : ¬ num s 0 2 < 12) (h3 : ¬ s.length < 2 + num s 0 2) : feedS s = ((s.drop 2).take (num s 0 2) :: (feedS (s.drop (2 + num s 0 2))).1, (feedS (s.drop (2 + num s 0 2))).2) := by
  conv => lhs; rw [feedS, if_neg h, if_neg h2, if_neg h3]
/-- The state of a splitter: what waits matters only while it lives. -/
structure StF (h : Heap) (t : Addr) (T : TypeId) (rest : Nm) (dead : Bool) : Prop where
  own : ∃ r : Nm, Own h t [.string (bs r), .bool dead] T ∧ (dead = false → r = rest)
theorem StF.fr {S : Nat → Prop} {h h' : Heap} {t : Addr} {T : TypeId} {rest : Nm} {dead : Bool} (F : StF h t T rest dead) (f : Fr S h h') (hn : ¬ S t.block) : StF h' t T rest dead := by
  obtain ⟨r, o, e⟩ := F.own; exact ⟨r, o.fr f hn, e⟩
theorem StF.lt {h : Heap} {t : Addr} {T : TypeId} {rest : Nm} {dead : Bool} (F : StF h t T rest dead) : t.block < h.size := by
  obtain ⟨r, o, e⟩ := F.own; exact o.lt
theorem newStream_c [Gh] {h : Heap} {Q : Value → Heap → Prop} (hk : ∀ t h', Fr (fun _ => False) h h' → t.block = h.size → StF h' t T_dns_Stream [] false → Q (.pointer (some t)) h') : CallT Tryd.prog fn_dns_NewStream #[] h Q := by
  apply dns_NewStream_s
  unfold dns_NewStream_v
  exact al_mk (vs := [.string (bs []), .bool false]) fun t h1 f1 e1 o1 => hk t h1 f1 e1 ⟨[], o1, fun _ => rfl⟩
theorem rNewStream_c [Gh] {h : Heap} {Q : Value → Heap → Prop} (hk : ∀ t h', Fr (fun _ => False) h h' → t.block = h.size → StF h' t T_intrusionref29_Stream [] false → Q (.pointer (some t)) h') : CallT Tryd.prog fn_ref29_NewStream #[] h Q := by
  apply ref29_NewStream_s
  unfold ref29_NewStream_v
  exact al_mk (vs := [.string (bs []), .bool false]) fun t h1 f1 e1 o1 => hk t h1 f1 e1 ⟨[], o1, fun _ => rfl⟩
theorem num_two {s : Nm} (h : ¬ s.length < 2) : num s 0 2 = (s[0]'(by omega)).toNat * 256 + (s[1]'(by omega)).toNat := by
  have := val2 s 0 (by omega)
  unfold num; exact this
/-- What a call of Feed hands back. -/
def FeedK (h : Heap) (t : Addr) (T : TypeId) (rest : Nm) (s : Nm) (Q : Value → Heap → Prop) : Prop :=
  ∀ p c h', Fr (fun b => b = t.block) h h' → Row 1 strV h' p c (feedS (rest ++ s)).1 → (∀ b, InA p b → h.size ≤ b) → StF h' t T (feedS (rest ++ s)).2.1 (feedS (rest ++ s)).2.2 → Q (.tuple #[.slice p (feedS (rest ++ s)).1.length c, .int .i64 (if (feedS (rest ++ s)).2.2 = true then 2 else 0)]) h'
theorem feed_dead [Gh] {h : Heap} {t : Addr} {rest : Nm} (F : StF h t T_dns_Stream rest true) (s : Nm) {Q : Value → Heap → Prop} (hk : Q (.tuple #[.slice none 0 0, .int .i64 10]) h) : CallT Tryd.prog fn_dns_Stream_Feed #[.pointer (some t), .string (bs s)] h Q := by
  obtain ⟨r, o, e⟩ := F.own
  apply dns_Stream_Feed_s
  unfold dns_Stream_Feed_v
  refine ifNS (nn_mk (ldB_mk (o.cells.at (j := 1) rfl) ?_))
  rw [if_pos rfl]; exact hk
theorem rfeed_dead [Gh] {h : Heap} {t : Addr} {rest : Nm} (F : StF h t T_intrusionref29_Stream rest true) (s : Nm) {Q : Value → Heap → Prop} (hk : Q (.tuple #[.slice none 0 0, .int .i64 10]) h) : CallT Tryd.prog fn_ref29_Stream_Feed #[.pointer (some t), .string (bs s)] h Q := by
  obtain ⟨r, o, e⟩ := F.own
  apply ref29_Stream_Feed_s
  unfold ref29_Stream_Feed_v
  refine ifNS (nn_mk (ldB_mk (o.cells.at (j := 1) rfl) ?_))
  rw [if_pos rfl]; exact hk
theorem feed_c [Gh] {h : Heap} {t : Addr} {rest : Nm} (F : StF h t T_dns_Stream rest false) (s : Nm) (hl : rest.length + s.length ≤ 2 ^ 28) {Q : Value → Heap → Prop} (hk : FeedK h t T_dns_Stream rest s Q) : CallT Tryd.prog fn_dns_Stream_Feed #[.pointer (some t), .string (bs s)] h Q := by
  obtain ⟨r, o, e⟩ := F.own
  have e := e rfl
  subst e
  apply dns_Stream_Feed_s
  unfold dns_Stream_Feed_v
  refine ifNS (nn_mk (ldB_mk (o.cells.at (j := 1) rfl) ?_))
  rw [if_neg Bool.false_ne_true]
  refine nn_mk (ldS_mk (o.cells.at0 rfl) ?_)
  rw [bs_size, bs_size, bs_append, imax]
  have lt := o.lt
  refine ⟨by omega, nn_mk (st1_own0 o (by simp) rfl fun h1 f1 s1 o1 => ?_)⟩
  unfold FeedK at hk
  have hsl : (r ++ s).length ≤ 2 ^ 28 := by rw [List.length_append]; exact hl
  generalize r ++ s = s0 at *
  refine LoopV.go (fun n st h' => ∃ (cur : Nm) (out : List Nm), st.2.1 = out.length ∧ n = cur.length ∧ cur.length + out.length ≤ s0.length ∧ Fr (fun b => b = t.block) h h' ∧ Own h' t [.string (bs cur), .bool false] T_dns_Stream ∧ Row 1 strV h' st.1 st.2.2 out ∧ (∀ b, InA st.1 b → h.size ≤ b) ∧ feedS s0 = (out ++ (feedS cur).1, (feedS cur).2)) s0.length
    ⟨s0, [], rfl, rfl, by simp, f1, o1, Row.nil, fun b hb => (notInA hb).elim, rfl⟩ ?_
  rintro n ⟨p, n1, c⟩ h2 ⟨cur, out, hn1, rfl, hlen, f2, o2, R2, hp, hf⟩ Kn hK
  have hn1 : n1 = out.length := hn1
  subst hn1
  unfold dns_Stream_Feed_l1
  dsimp only at R2 hp ⊢
  have z2 := f2.size
  have l2 := o2.lt
  refine nn_mk (ldS_mk (o2.cells.at0 rfl) ?_)
  rw [bs_size]
  refine ifD (fun e1 => ?_) fun e1 => ?_
  · have h2' : ¬ cur.length < 2 := by omega
    have hnum := num_two h2'
    have hb0 := (cur[0]'(by omega)).toNat_lt
    have hb1 := (cur[1]'(by omega)).toNat_lt
    refine nn_mk (ldS_mk (o2.cells.at0 rfl) (ixS cur 0 rfl (by omega) ⟨by omega, nn_mk (ldS_mk (o2.cells.at0 rfl) (ixS cur 1 rfl (by omega) ?_))⟩))
    have eb0 : byteI (cur[0]'(by omega)) = ((cur[0]'(by omega)).toNat : Int) := rfl
    have eb1 : byteI (cur[1]'(by omega)) = ((cur[1]'(by omega)).toNat : Int) := rfl
    have w0 : wrap .i64 (byteI (cur[0]'(by omega))) = ((cur[0]'(by omega)).toNat : Int) := by rw [eb0]; exact wr (by omega) (by omega)
    have w1 : wrap .i64 (byteI (cur[1]'(by omega))) = ((cur[1]'(by omega)).toNat : Int) := by rw [eb1]; exact wr (by omega) (by omega)
    rw [w0, w1, or8 _ _ (by omega) hb1, ← hnum]
    have hnl := num2_lt cur 0
    generalize hnn : num cur 0 2 = nn at *
    refine ifD (fun e2 => ?_) fun e2 => ?_
    · rw [feedS_bad h2' (by omega)] at hf
      refine nn_mk (st1_own0 o2 (by simp) rfl fun h3 f3 s3 o3 => nn_mk ?_)
      refine st1_own o3 1 (by simp) rfl fun h4 f4 s4 o4 => ?_
      rw [hf, List.append_nil] at hk
      refine hk p c h4 ((f2.trans f3).trans f4) ((R2.fr f3 fun b hb h => by have := hp b hb; have := o.lt; omega).fr f4 fun b hb h => by have := hp b hb; have := o.lt; omega) hp ⟨_, o4, fun h => by cases h⟩
    refine nn_mk (ldS_mk (o2.cells.at0 rfl) ?_)
    have w2 : wrap .i64 (2 + (nn : Int)) = ((2 + nn : Nat) : Int) := by rw [wr (by omega) (by omega)]; omega
    rw [w2, bs_size]
    refine ifD (fun e3 => ?_) fun e3 => ?_
    · rw [feedS_wait h2' (by omega) (by omega)] at hf
      rw [hf, List.append_nil] at hk
      exact hk p c h2 f2 R2 hp ⟨_, o2, fun _ => rfl⟩
    rw [feedS_go h2' (by omega) (by omega), hnn] at hf
    refine nn_mk (ldS_mk (o2.cells.at0 rfl) (slS cur 2 (2 + nn) rfl rfl (by omega) (by omega) ?_))
    rw [Nat.add_sub_cancel_left]
    refine al_mk (vs := strV ((cur.drop 2).take nn)) fun b h3 f3 e3' o3 => ?_
    have z3 := f3.size
    refine appS (R2.fr0 f3) o3 (by omega) fun p' c' h4 R4 f4 hn4 => ⟨_, _, _, rfl, ?_⟩
    have nt : ¬ InA p t.block := fun hi => by have := hp _ hi; omega
    have o4 := (o2.fr0 f3).fr f4 nt
    refine nn_mk (ldS_mk (o4.cells.at0 rfl) (slF cur (2 + nn) rfl (by omega) (nn_mk ?_)))
    refine st1_own0 o4 (by simp) rfl fun h5 f5 s5 o5 => ?_
    have hp' : ∀ b, InA p' b → h.size ≤ b := fun b hb => by
      rcases hn4 b hb with h | h
      · exact hp b h
      · omega
    refine hK (cur.drop (2 + nn)).length _ _ (by rw [List.length_drop]; omega) ⟨cur.drop (2 + nn), out ++ [(cur.drop 2).take nn], rfl, rfl, by rw [List.length_drop, List.length_append]; simp; omega, ?_, o5, R4.fr f5 fun b hb h => by have := hp' b hb; have := o.lt; omega, hp', by rw [hf]; simp⟩
    exact ((f2.trans (f3.mono fun _ h => h.elim)).tr f4 fun b hb hi => by have := hp b hi; omega).trans f5
  · rw [feedS_short (s := cur) (by omega)] at hf
    rw [hf, List.append_nil] at hk
    exact hk p c h2 f2 R2 hp ⟨_, o2, fun _ => rfl⟩
end Go.Proofs.YtmjbcnbjedipdaaDoor
/-!
  The reference's writer: names.
-/
namespace Go.Proofs.YtmjbcnbjedipdaaDoor
set_option linter.unusedSimpArgs false
set_option linter.unusedVariables false
set_option maxRecDepth 20000
open Go
open Go.IntKind (wrap)
theorem ldS_ {h : Heap} {a : Addr} {s : ByteArray} (hc : hcell h a = some (.string s)) : ldS h a fun t => (.string t : Value) = .string s := ⟨s, hc, rfl⟩
/-- The reference's writer: the bytes, and the places of suffixes. -/
structure RW (ok : Nat → Prop) (h : Heap) (wb : Addr) (short : Bool) (P : List (Nm × Nat)) (out : Nm) : Prop where
  ex : ∃ p c, Own h wb [.string (bs out), .bool short, .slice p P.length c] T_intrusionref29_writer ∧ Row 2 plV h p c P ∧ ∀ b, InA p b → ok b ∧ b ≠ wb.block
  okw : ok wb.block
def near (P : List (Nm × Nat)) : List (Nm × Nat) := P.filter fun e => decide (e.2 < 16384)
section
variable {ok : Nat → Prop} {h : Heap} {wb : Addr} {short : Bool} {P : List (Nm × Nat)} {out : Nm}
theorem RW.fr (W : RW ok h wb short P out) {R : Nat → Prop} {h' : Heap} (f : Fr R h h') (hP : ∀ b, b < h.size → R b → ¬ ok b) : RW ok h' wb short P out := by
  obtain ⟨p, c, o, R, hp⟩ := W.ex
  exact ⟨⟨p, c, o.fr f fun h => hP _ o.lt h W.okw, R.fr f fun b hb h => hP b (R.lt hb) h (hp b hb).1, hp⟩, W.okw⟩
theorem RW.fr0 (W : RW ok h wb short P out) {h' : Heap} (f : Fr (fun _ => False) h h') : RW ok h' wb short P out := W.fr f fun _ _ h => h.elim
theorem RW.lt (W : RW ok h wb short P out) : wb.block < h.size := by obtain ⟨p, c, o, _⟩ := W.ex; exact o.lt
theorem RW.to {ok' : Nat → Prop} (W : RW ok h wb short P out) (h1 : ∀ b, b < h.size → ok b → ok' b) : RW ok' h wb short P out := by
  obtain ⟨p, c, o, R, hp⟩ := W.ex
  exact ⟨⟨p, c, o, R, fun b hb => ⟨h1 b (R.lt hb) (hp b hb).1, (hp b hb).2⟩⟩, h1 _ o.lt W.okw⟩
theorem RW.cell (W : RW ok h wb short P out) : hcell h wb = some (.string (bs out)) := by
  obtain ⟨p, c, o, _⟩ := W.ex
  exact o.cells.at0 rfl
/-- The bytes are set. -/
theorem RW.set (W : RW ok h wb short P out) (t : Nm) {K : Heap → Prop} (hk : ∀ h', Fr ok h h' → h'.size = h.size → RW ok h' wb short P t → K h') : st1 h wb (.string (bs t)) K := by
  obtain ⟨p, c, o, R, hp⟩ := W.ex
  refine st1_own0 o (by simp) rfl fun h3 f3 s3 o3 => ?_
  exact hk h3 (f3.mono fun b hb => hb ▸ W.okw) s3 ⟨⟨p, c, o3, R.fr f3 fun b hb h => (hp b hb).2 h, hp⟩, W.okw⟩
/-- Places are appended. -/
theorem RW.add [Gh] (W : RW ok h wb short P out) (hok : ∀ b, h.size ≤ b → ok b) {M : List (Nm × Nat)} {q : Option Addr} {qc : Nat} (R2 : Row 2 plV h q qc M) (hl : P.length + M.length ≤ 2 ^ 30) {K : Heap → Prop}
    (hk : ∀ h', Fr ok h h' → RW ok h' wb short (P ++ M) out → K h') :
    nn (some wb) fun t94 => ldL h (Addr.add t94 2) fun t96a t96n t96c => bltV Tryd.prog .append #[T_sl_intrusionref29_place, T_sl_intrusionref29_place] T_sl_intrusionref29_place #[false, false] #[.slice t96a t96n t96c, .slice q M.length qc] h fun v h15 => ∃ t98a : Option Addr, ∃ t98n : Nat, ∃ t98c : Nat, v = .slice t98a t98n t98c ∧ nn (some wb) fun t99 => st1 h15 (Addr.add t99 2) (.slice t98a t98n t98c) K := by
  obtain ⟨p, c, o, R, hp⟩ := W.ex
  have lw := o.lt
  refine nn_mk (ldL_mk (o.cells.at (j := 2) rfl) ?_)
  refine appPL R R2 hl fun p2 c2 h2 R3 f2 hn2 => ⟨_, _, _, rfl, ?_⟩
  have o2 := o.fr f2 fun h => (hp _ h).2 rfl
  refine nn_mk (st1_own o2 2 (by simp) rfl fun h3 f3 s3 o3 => ?_)
  have new : ∀ b, InA p2 b → ok b ∧ b ≠ wb.block := fun b hb => by
    rcases hn2 b hb with h | h
    · exact hp b h
    · exact ⟨hok b h, by omega⟩
  exact hk h3 ((f2.mono fun b hb => (hp b hb).1).trans (f3.mono fun b hb => hb ▸ W.okw)) ⟨⟨p2, c2, o3, R3.fr f3 fun b hb h => (new b hb).2 h, new⟩, W.okw⟩
theorem rfind_c [Gh] (W : RW ok h wb short P out) (hl : P.length ≤ 2 ^ 30) (s : Nm) {Q : Value → Heap → Prop} (hk : Q (.int .i64 (findI P s)) h) : CallT Tryd.prog fn_ref29_writer_find #[.pointer (some wb), .string (bs s)] h Q := by
  obtain ⟨p, c, o, R, hp⟩ := W.ex
  exact find_c o R hl s hk
end
theorem cut_drop (s : Nm) : s.drop (cutDot s).1.length = if (cutDot s).2.2 = true then 46 :: (cutDot s).2.1 else [] := by
  obtain ⟨h1, _⟩ := cut_eq s
  conv => lhs; arg 2; rw [h1]
  rw [List.drop_append]; simp
theorem labels_head {s : Nm} (h : s ≠ []) : ∃ l, labelsL s = (cutDot s).1 :: l := by
  unfold labelsL
  rw [if_neg h, cut_split]
  split
  · exact ⟨_, rfl⟩
  · exact ⟨_, rfl⟩
theorem near_append (P M : List (Nm × Nat)) : near (P ++ M) = near P ++ near M := List.filter_append ..
theorem near_look (P : List (Nm × Nat)) (s : Nm) : lookN (near P) s = findP P s := lookN_filter P s
theorem findP_lt {P : List (Nm × Nat)} {s : Nm} {n : Nat} (h : findP P s = some n) : n < 16384 := by
  unfold findP at h
  rw [Option.map_eq_some_iff] at h
  obtain ⟨e, h1, h2⟩ := h
  have h4 := List.find?_some h1
  rw [decide_eq_true_eq] at h4
  rw [← h2]; exact h4.2
theorem findP_len {M : List (Nm × Nat)} {s : Nm} (h : ∀ e ∈ M, s.length < e.1.length) : findP M s = none := by
  rw [← near_look]
  exact lookN_len fun e he => h e ((List.mem_filter.1 he).1)
set_option maxHeartbeats 1000000 in
theorem rwname_c [Gh] {ok : Nat → Prop} {h : Heap} {wb : Addr} {short : Bool} {P S : List (Nm × Nat)} {out : Nm} (W : RW ok h wb short P out) (hok : ∀ b, h.size ≤ b → ok b) (s0 : Nm) (hs : s0.length ≤ 2 ^ 20) (hv : okS (lowL s0)) (hl : out.length ≤ 2 ^ 25) (hPl : P.length ≤ 2 ^ 25) (hSh : short = true → S = near P) {Q : Value → Heap → Prop}
    (hk : ∀ h' P', Fr ok h h' → RW ok h' wb short P' (nameW short (lowL s0) out S).1 → P'.length ≤ P.length + s0.length → (short = true → (nameW short (lowL s0) out S).2 = near P') → Q (.tuple #[]) h') : CallT Tryd.prog fn_ref29_writer_name #[.pointer (some wb), .string (bs s0)] h Q := by
  apply ref29_writer_name_s
  unfold ref29_writer_name_v
  refine rsmall_c s0 (by omega) fun h1 f1 => ⟨_, rfl, ?_⟩
  have hs0 : (lowL s0).length = s0.length := lowL_len s0
  have hs : (lowL s0).length ≤ 2 ^ 20 := by omega
  rw [← hs0] at hk
  generalize lowL s0 = s at *
  have z1 := f1.size
  refine al_mk (vs := []) fun t9 h2 f2 e2 o2 => ?_
  have z2 := f2.size
  have F2 := f1.trans f2
  have W2 : RW (fun b => ok b ∧ b < h.size) h2 wb short P out := (W.to (ok' := fun b => ok b ∧ b < h.size) fun b hb h => ⟨h, hb⟩).fr0 F2
  have hok2 : ∀ b, h2.size ≤ b → ok b := fun b hb => hok b (by omega)
  have R0 : Row 2 plV h2 (some t9) 0 ([] : List (Nm × Nat)) := Row.of_own (L := []) (T := T_intrusionref29_place) plV_len o2
  refine LoopV.go (fun n st h' => ∃ (s' : Nm) (S' M : List (Nm × Nat)) (out' : Nm), st.1 = bs s' ∧ st.2.2.1 = M.length ∧ n = s'.length ∧ Fr (fun b => ok b ∧ b < h.size) h h' ∧ h2.size ≤ h'.size ∧ RW (fun b => ok b ∧ b < h.size) h' wb short P out' ∧ Row 2 plV h' st.2.1 st.2.2.2 M ∧ (∀ b, InA st.2.1 b → h.size ≤ b) ∧ (∀ e ∈ M, s'.length < e.1.length) ∧ M.length + s'.length ≤ s.length ∧ okS s' ∧ out'.length + 2 * s'.length ≤ out.length + 2 * s.length ∧ (short = true → S' = near (P ++ M)) ∧ nameW short s out S = nameW short s' out' S') s.length
    ⟨s, S, [], out, rfl, rfl, rfl, F2.mono fun _ h => h.elim, Nat.le_refl _, W2, R0, fun b hb => ?_, fun e he => by (cases he), by simp, hv, Nat.le_refl _, fun h => by rw [List.append_nil]; exact hSh h, rfl⟩ ?_
  · obtain ⟨ad, he, hb⟩ := hb; cases he; omega
  rintro n ⟨st1, pm, nm, cm⟩ h3 ⟨s', S', M, out', he1, he2, rfl, f3, z3, W3, RM, hpm, hM, hML, hv3, hl3, hS3, he⟩ Kn hK
  have he1 : st1 = bs s' := he1
  have he2 : nm = M.length := he2
  subst he1 he2
  dsimp only at W3 RM hpm ⊢
  have hz3 : h.size ≤ h3.size := by omega
  have lw := W.lt
  have notM : ∀ b, InA pm b → ¬ (ok b ∧ b < h.size) := fun b hb h => by have := hpm b hb; omega
  have fin : ∀ {h4 : Heap}, Fr (fun b => ok b ∧ b < h.size) h3 h4 → RW (fun b => ok b ∧ b < h.size) h4 wb short P (nameW short s out S).1 → (short = true → (nameW short s out S).2 = near (P ++ M)) → nn (some wb) fun t94 => ldL h4 (Addr.add t94 2) fun t96a t96n t96c => bltV Tryd.prog .append #[T_sl_intrusionref29_place, T_sl_intrusionref29_place] T_sl_intrusionref29_place #[false, false] #[.slice t96a t96n t96c, .slice pm M.length cm] h4 fun v h15 => ∃ t98a : Option Addr, ∃ t98n : Nat, ∃ t98c : Nat, v = .slice t98a t98n t98c ∧ nn (some wb) fun t99 => st1 h15 (Addr.add t99 2) (.slice t98a t98n t98c) fun h16 => Q (.tuple #[]) h16 := fun {h4} f4 W4 hS => by
    have z4 := f4.size
    refine (W4.to (ok' := ok) fun b _ h => h.1).add (fun b hb => hok b (by omega)) (RM.fr f4 notM) (by omega) fun h5 f5 W5 => ?_
    refine hk h5 (P ++ M) ((f3.mono fun b h => h.1).trans ((f4.mono fun b h => h.1).trans f5)) W5 ?_ hS
    rw [List.length_append]; omega
  unfold ref29_writer_name_l1
  refine ifSn (m := []) (fun hne => ?_) fun he0 => ?_
  · obtain ⟨hc1, hc2⟩ := hv3.cut hne
    have hc3 := cut_two s' hne
    have hc4 := cut_rest s' hne
    have hfind : findP (P ++ M) s' = findP P s' := by rw [findP_append, findP_len hM]; cases findP P s' <;> rfl
    -- the name goes on
    have on : (if short = true then lookN S' s' else none) = none → ref29_writer_name_b3 (some wb) (bs s') pm M.length cm Q Kn h3 := fun hmiss => by
      unfold ref29_writer_name_b3
      refine nn_mk (ldS_mk W3.cell ?_)
      rw [bs_size]
      refine al_mk (vs := plV (s', out'.length)) fun t51 h8 f8 e8 o8 => ?_
      have z8 := f8.size
      refine appP1 (RM.fr0 f8) o8 (by omega) fun p4 c4 h9 R9 f9 hn9 => ⟨_, _, _, rfl, ?_⟩
      have z9 := f9.size
      refine labels_c s' (by omega) fun pl cl h10 f10 RL hpl => ⟨_, _, _, rfl, ?_⟩
      have z10 := f10.size
      have W10 := ((W3.fr0 f8).fr f9 fun b hb h hok => notM b h hok).fr0 f10
      obtain ⟨lt, hlt⟩ := labels_head hne
      rw [hlt] at RL ⊢
      refine nn_mk (ldS_mk W10.cell ?_)
      obtain ⟨ad, had, cl0⟩ := RL.cellsAt strV_len (by omega) 0 (by simp)
      have cl0 : Cells h10 (ad.add (0 * 1)) [.string (bs (cutDot s').1)] := cl0
      have ix : ∀ {K : Addr → Prop}, K ad → idxA (0 : Int) ((cutDot s').1 :: lt).length (nn pl fun a => K a) := fun hK => idxA_mk 0 rfl (by simp) (by rw [had]; exact nn_mk hK)
      have hal : ad.block < h10.size := RL.lt ⟨ad, had, rfl⟩
      refine ix (ldS_mk (cl0.at0 rfl) (ix (ldS_mk (cl0.at0 rfl) ?_)))
      rw [bs_size]
      have hw1 : wrap .u8 (((cutDot s').1.length : Nat) : Int) = ((UInt8.ofNat (cutDot s').1.length).toNat : Int) := by
        rw [wrb (by omega) (by omega)]
        have : (UInt8.ofNat (cutDot s').1.length).toNat = (cutDot s').1.length := by
          rw [UInt8.toNat_ofNat']; exact Nat.mod_eq_of_lt (by omega)
        rw [this]
      rw [hw1]
      have hb1 : beB 1 (cutDot s').1.length = [UInt8.ofNat (cutDot s').1.length] := by
        show [] ++ [UInt8.ofNat ((cutDot s').1.length % 256)] = _
        rw [Nat.mod_eq_of_lt (by omega)]; rfl
      refine al_mk (vs := bV (UInt8.ofNat (cutDot s').1.length)) fun t65 h11 f11 e11 o11 => ?_
      have z11 := f11.size
      have W11 := W10.fr0 f11
      have cl1 := cl0.fr0 f11
      refine ⟨ldS_ W11.cell, ldS_ (cl1.at0 rfl), ?_⟩
      have RB : Row 1 bV h11 (some t65) 1 [UInt8.ofNat (cutDot s').1.length] := Row.of_own (L := [UInt8.ofNat (cutDot s').1.length]) (T := T_uint8) bV_len o11
      refine conv8 RB ⟨_, rfl, ldS_ W11.cell, ldS_ (cl1.at0 rfl), ?_⟩
      rw [bs_append, bs_size, bs_size, bs_append, bs_size, imax, List.length_append, List.length_append, List.length_singleton]
      refine ⟨by omega, by omega, nn_mk ?_⟩
      refine W11.set _ fun h13 f13 z13 W13 => ?_
      have cl3 := cl1.fr f13 fun h => by
        rw [add_block] at h
        have := hpl ad.block ⟨ad, had, rfl⟩
        omega
      refine ix (ldS_mk (cl3.at0 rfl) ?_)
      rw [bs_size]
      have step : Kn (bs (cutDot s').2.1, p4, (M ++ [(s', out'.length)]).length, c4) h13 := by
        have hp4 : ∀ b, InA p4 b → h.size ≤ b := fun b hb => by
          rcases hn9 b hb with h | h
          · exact hpm b h
          · omega
        refine hK _ _ _ hc4.1 ⟨(cutDot s').2.1, (if short = true ∧ out'.length < 16384 then S' ++ [(s', out'.length)] else S'), M ++ [(s', out'.length)], _, rfl, rfl, rfl, ?_, by omega, W13, ((R9.fr0 f10).fr0 f11).fr f13 fun b hb h => (by have := hp4 b hb; omega), hp4, ?_, ?_, hc2, ?_, ?_, ?_⟩
        · exact (((f3.trans (f8.mono fun _ h => h.elim)).tr f9 fun b hb hi => by have := hpm b hi; omega).trans ((f10.trans f11).mono fun _ h => h.elim)).trans f13
        · intro e he
          rcases List.mem_append.1 he with h | h
          · have := hM e h; omega
          · rw [List.mem_singleton] at h; subst h; exact hc4.1
        · rw [List.length_append, List.length_singleton]; omega
        · rw [List.length_append, List.length_append, List.length_singleton]; omega
        · intro hsh
          rw [hS3 hsh, ← List.append_assoc, near_append (P ++ M)]
          unfold near
          by_cases h14 : out'.length < 16384
          · rw [if_pos ⟨hsh, h14⟩]; simp [h14]
          · rw [if_neg fun h => h14 h.2]; simp [h14]
        · rw [he, nameW_miss hne hmiss, hb1]
      rw [List.length_append] at step
      refine slF s' (cutDot s').1.length rfl hc4.2 ?_
      rw [cut_drop]
      cases hb : (cutDot s').2.2 with
      | true =>
        rw [if_pos rfl]
        refine ifSn (m := []) (fun _ => ?_) fun h => by cases h
        refine slF (46 :: (cutDot s').2.1) 1 rfl (by simp) ?_
        exact step
      | false =>
        rw [if_neg Bool.false_ne_true]
        refine ifSn (m := []) (fun h => absurd rfl h) fun _ => ?_
        rw [(cut_eq s').2 hb] at step
        exact step
    refine rfind_c W3 (by omega) s' ⟨_, rfl, ?_⟩
    have cb : ∀ {K : Bool → Prop}, K short → ldB h3 (wb.add 1) K := fun hK => by
      obtain ⟨p, c, o, _⟩ := W3.ex
      exact ldB_mk (o.cells.at (j := 1) rfl) hK
    refine nn_mk (cb ?_)
    cases hsh : short with
    | false =>
      rw [if_neg Bool.false_ne_true]
      exact on (by rw [hsh]; rfl)
    | true =>
      rw [if_pos rfl]
      have hlk : lookN S' s' = findP P s' := by rw [hS3 hsh, near_look, hfind]
      unfold findI
      cases hf : findP P s' with
      | none =>
        refine ifD (fun e => absurd e (by decide)) fun _ => ?_
        exact on (by rw [hsh, if_pos rfl, hlk, hf])
      | some a =>
        have ha := findP_lt hf
        dsimp only
        refine ifD (fun _ => ?_) fun e => absurd e (by omega)
        refine nn_mk (ldS_mk W3.cell ?_)
        have hwr : wrap .i64 (49152 + (a : Int)) = ((49152 + a : Nat) : Int) := by rw [wr (by omega) (by omega)]; omega
        rw [hwr]
        refine rput_c 2 (49152 + a) (by omega) (by omega) (by omega) fun h4 f4 => ⟨_, rfl, ldS_ (W3.fr0 f4).cell, ?_⟩
        rw [bs_append, bs_size, bs_size, beB_len, imax]
        refine ⟨by omega, nn_mk ?_⟩
        rw [nameW_hit hne (by rw [hsh, if_pos rfl, hlk, hf])] at he
        refine (W3.fr0 f4).set _ fun h5 f5 z5 W5 => ?_
        refine fin ((f4.mono fun _ h => h.elim).trans f5) (by rw [he]; exact W5) fun _ => by rw [he]; exact hS3 hsh
  · subst he0
    unfold ref29_writer_name_b2
    rw [nameW_nil] at he
    refine nn_mk (ldS_mk W3.cell ?_)
    have e0 : (⟨#[0]⟩ : ByteArray) = bs (beB 1 0) := rfl
    rw [e0, bs_append, bs_size, bs_size, beB_len, imax]
    refine ⟨by omega, nn_mk ?_⟩
    refine W3.set _ fun h4 f4 z4 W4 => ?_
    exact fin f4 (by rw [he]; exact W4) fun hsh => by rw [he]; exact hS3 hsh
end Go.Proofs.YtmjbcnbjedipdaaDoor
/-!
  The reference's encode.
-/
namespace Go.Proofs.YtmjbcnbjedipdaaDoor
set_option linter.unusedSimpArgs false
set_option linter.unusedVariables false
set_option maxRecDepth 20000
open Go
open Go.IntKind (wrap)
theorem ldI_ {h : Heap} {a : Addr} {k : IntKind} {n : Int} (hc : hcell h a = some (.int k n)) : ldI h a k fun t => (.int k t : Value) = .int k n := ⟨n, hc, rfl⟩
theorem ldL_ {h : Heap} {a : Addr} {p : Option Addr} {n c : Nat} (hc : hcell h a = some (.slice p n c)) : ldL h a fun q m d => (.slice q m d : Value) = .slice p n c := ⟨p, n, c, hc, rfl⟩
theorem two01 : (⟨#[0, 1]⟩ : ByteArray) = bs (beB 2 1) := rfl
theorem two00 : (⟨#[0, 0]⟩ : ByteArray) = bs (beB 2 0) := rfl
theorem four0 : (⟨#[0, 0, 0, 0]⟩ : ByteArray) = bs (beB 2 0 ++ beB 2 0) := rfl
theorem rencode_b4 [Gh] {ok : Nat → Prop} {h : Heap} {d wb : Addr} {short : Bool} {P : List (Nm × Nat)} {body : Nm} (W : RW ok h wb short P body) (at_ i : Nat) (g1 : at_ + 2 ≤ body.length) (g2 : body.length - at_ - 2 < 65536) (g3 : body.length ≤ 2 ^ 26) (hi : i ≤ 1000) {Q : Value → Heap → Prop} {Kn : Int → Heap → Prop}
    (hk : ∀ h', Fr ok h h' → RW ok h' wb short P (body.take at_ ++ beB 2 (body.length - at_ - 2) ++ body.drop (at_ + 2)) → Kn ((i + 1 : Nat) : Int) h') : ref29_encode_b4 d wb (i : Int) (at_ : Int) Q Kn h := by
  unfold ref29_encode_b4
  refine ldS_mk W.cell (slT body at_ rfl (by omega) (ldS_mk W.cell (ldS_mk W.cell ?_)))
  refine slF body (at_ + 2) (by rw [wr (by omega) (by omega)]; omega) (by omega) ?_
  have hw : wrap .i64 (wrap .i64 ((((bs body).size : Nat) : Int) - (at_ : Int)) - 2) = ((body.length - at_ - 2 : Nat) : Int) := by
    rw [bs_size, wr (x := ((body.length : Nat) : Int) - (at_ : Int)) (by omega) (by omega), wr (by omega) (by omega)]; omega
  rw [hw]
  refine rput_c 2 (body.length - at_ - 2) (by omega) (by omega) (by omega) fun h3 f3 => ⟨_, rfl, ldS_ (W.fr0 f3).cell, ldS_ (W.fr0 f3).cell, ?_⟩
  simp only [bs_append, bs_size, imax, List.length_append, beB_len, List.length_take, List.length_drop]
  refine ⟨by omega, by omega, ?_⟩
  refine (W.fr0 f3).set _ fun h4 f4 z4 W4 => ?_
  rw [wr (by omega) (by omega)]
  exact hk h4 ((f3.mono fun _ h => h.elim).trans f4) W4
set_option maxHeartbeats 2000000 in
theorem rencode_c [Gh] {h : Heap} {id fl : Int} {u : Sl Qu} {w : Sl Re} {short : Bool} {Q : Value → Heap → Prop} (ou : SlOk 2 S_api_DnsQuestion.vals S_api_DnsQuestion.ok h u) (ow : SlOk 4 S_api_DnsRecord.vals S_api_DnsRecord.ok h w)
    (hk : ∀ h', Fr (fun _ => False) h h' → Q (.tuple #[.string (bs (encS short id fl u.xs w.xs).2), .int .i64 (encS short id fl u.xs w.xs).1]) h') :
    CallT Tryd.prog fn_ref29_encode #[.agg #[.int .i64 id, .int .i64 fl, .slice u.p u.xs.length u.cap, .slice w.p w.xs.length w.cap], .bool short] h Q := by
  apply ref29_encode_s
  unfold ref29_encode_v
  unfold encS at hk
  refine al_mk (vs := [.int .i64 id, .int .i64 fl, .slice u.p u.xs.length u.cap, .slice w.p w.xs.length w.cap]) fun t2 h1 f1 e1 o1 => ?_
  have c1 := o1.cells
  have z1 := f1.size
  refine ldI_mk (c1.at0 rfl) (ldI_mk (c1.at (j := 1) rfl) (ldL_mk (c1.at (j := 2) rfl) (ldL_mk (c1.at (j := 3) rfl) ?_)))
  refine rcheck_c (SlOk.fr0 S_api_DnsQuestion.ok_fr f1 ou) (SlOk.fr0 S_api_DnsRecord.ok_fr f1 ow) fun h2 f2 => ⟨_, rfl, ?_⟩
  have F2 := f1.trans f2
  have z2 := f2.size
  refine ifNe (fun e => ?_) fun e => ?_
  · rw [if_pos e] at hk
    exact hk h2 F2
  rw [if_neg (by simpa using e)] at hk
  -- what the check says
  have hck := e
  unfold checkS at hck
  split at hck
  · exact absurd hck (by decide)
  rename_i hn8
  split at hck
  · exact absurd hck (by decide)
  rename_i hwd
  split at hck
  · rename_i hqn; exact absurd hck hqn
  rename_i hqz
  have hqa := firstE_all (f := qE) (l := u.xs) (by omega)
  have hra := firstE_all (f := rE) (l := w.xs) hck
  obtain ⟨idn, hid, hidl⟩ := word_ok (n := id) (by cases hh : wordB id with | true => rfl | false => exact absurd (.inl hh) hwd)
  obtain ⟨fln, hfl, hfll⟩ := word_ok (n := fl) (by cases hh : wordB fl with | true => rfl | false => exact absurd (.inr hh) hwd)
  subst hid hfl
  clear hck e
  have c2 := (o1.fr0 f2).cells
  refine al_mk (vs := [.string (bs []), .bool short, .slice none 0 0]) fun wb h3 f3 e3 o3 => ?_
  have c3 := c2.fr0 f3
  refine ldI_mk (c3.at0 rfl) (ldI_mk (c3.at (j := 1) rfl) (ldL_mk (c3.at (j := 2) rfl) (ldL_mk (c3.at (j := 3) rfl) ?_)))
  have z3 := f3.size
  have l1 := o1.lt
  have l3 := o3.lt
  have F3 := F2.trans f3
  refine rput_c 2 idn (by omega) (by omega) (by omega) fun h4 f4 => ⟨_, rfl, ?_⟩
  have c4 := c3.fr0 f4
  refine ⟨ldI_ (c4.at (j := 1) rfl), ldL_ (c4.at (j := 2) rfl), ldL_ (c4.at (j := 3) rfl), ?_⟩
  refine rput_c 2 fln (by omega) (by omega) (by omega) fun h5 f5 => ⟨_, rfl, ?_⟩
  have c5 := c4.fr0 f5
  refine ⟨ldL_ (c5.at (j := 2) rfl), ldL_ (c5.at (j := 3) rfl), ?_⟩
  simp only [four0, two01, two00, bs_append, bs_size, imax, List.length_append, beB_len]
  refine ⟨by omega, ?_⟩
  refine rput_c 2 u.xs.length (by omega) (by omega) (by omega) fun h6 f6 => ⟨_, rfl, ?_⟩
  have c6 := c5.fr0 f6
  refine ⟨ldL_ (c6.at (j := 3) rfl), ?_⟩
  simp only [four0, two01, two00, bs_append, bs_size, imax, List.length_append, beB_len]
  refine ⟨by omega, ?_⟩
  refine rput_c 2 w.xs.length (by omega) (by omega) (by omega) fun h7 f7 => ⟨_, rfl, ?_⟩
  simp only [four0, two01, two00, bs_append, bs_size, imax, List.length_append, beB_len]
  refine ⟨by omega, by omega, ?_⟩
  have f37 := ((f4.trans f5).trans f6).trans f7
  have z37 := f37.size
  have W7 : RW (fun b => h.size ≤ b ∧ b ≠ t2.block) h7 wb short [] [] := ⟨⟨none, 0, o3.fr0 f37, Row.nil, fun b hb => (notInA hb).elim⟩, by omega⟩
  have o7 := ((o1.fr0 f2).fr0 f3).fr0 f37
  have F7 := F3.trans f37
  have hhead : beB 2 idn ++ beB 2 fln ++ beB 2 u.xs.length ++ beB 2 w.xs.length ++ (beB 2 0 ++ beB 2 0) = headW idn fln u.xs.length w.xs.length := by
    unfold headW; simp
  rw [hhead]
  have hhl : (headW idn fln u.xs.length w.xs.length).length = 12 := by unfold headW; simp only [List.length_append, beB_len]
  refine W7.set _ fun h8 f8 z8 W8 => ?_
  have lift : ∀ {x : Heap}, Fr (fun b => h.size ≤ b ∧ b ≠ t2.block) h7 x → Fr (fun _ => False) h x := fun f => F7.tr f fun b hb hi => by omega
  have dcell : ∀ {x : Heap}, Fr (fun b => h.size ≤ b ∧ b ≠ t2.block) h7 x → Cells x t2 [.int .i64 idn, .int .i64 fln, .slice u.p u.xs.length u.cap, .slice w.p w.xs.length w.cap] := fun f => (o7.fr f fun h => h.2 rfl).cells
  refine LoopV.go (fun n st h' => ∃ (i : Nat) (P : List (Nm × Nat)), st = (i : Int) ∧ i ≤ u.xs.length ∧ n = u.xs.length - i ∧ Fr (fun b => h.size ≤ b ∧ b ≠ t2.block) h7 h' ∧ RW (fun b => h.size ≤ b ∧ b ≠ t2.block) h' wb short P ((u.xs.take i).foldl (qW short) (headW idn fln u.xs.length w.xs.length, [])).1 ∧ P.length ≤ 253 * i ∧ (short = true → ((u.xs.take i).foldl (qW short) (headW idn fln u.xs.length w.xs.length, [])).2 = near P) ∧ ((u.xs.take i).foldl (qW short) (headW idn fln u.xs.length w.xs.length, [])).1.length ≤ 12 + i * 70000) u.xs.length
    ⟨0, [], rfl, by omega, rfl, f8, W8, by simp, fun _ => rfl, by show (headW _ _ _ _).length ≤ _; omega⟩ ?_
  rintro n - h9 ⟨i, P, rfl, hiu, rfl, f9, W9, hP9, hS9, hl9⟩ Kn3 hK3
  have z9 := f9.size
  have F9 := lift f9
  unfold ref29_encode_l1
  refine ldL_mk ((dcell f9).at (j := 2) rfl) (ifD (fun e6 => ?_) fun e6 => ?_)
  · have hlt : i < u.xs.length := by omega
    have hq0 := qE_ok (hqa _ (List.getElem_mem hlt))
    have hfold := foldl_take (qW short) (headW idn fln u.xs.length w.xs.length, []) u.xs i hlt
    have hqlen := qW_len short ((u.xs.take i).foldl (qW short) (headW idn fln u.xs.length w.xs.length, [])) u.xs[i] hq0.1
    rw [← hfold] at hqlen
    obtain ⟨ad, had, cc, _⟩ := ou.at_ i hlt
    have cc : Cells h (ad.add (i * 2)) [.string (bs u.xs[i].Name), .int .i64 u.xs[i].Type_] := cc
    have ix : ∀ {K : Addr → Prop}, K ad → idxA (i : Int) u.xs.length (nn u.p fun a => K a) := fun hK => idxA_mk i rfl hlt (by rw [had]; exact nn_mk hK)
    generalize (u.xs.take i).foldl (qW short) (headW idn fln u.xs.length w.xs.length, []) = st0 at *
    generalize u.xs[i] = q at *
    obtain ⟨hq1, hq2, kt, hkt, hktl⟩ := hq0
    refine ldL_mk ((dcell f9).at (j := 2) rfl) (ix ?_)
    rw [Int.toNat_natCast]
    refine ldS_mk ((cc.fr0 F9).at0 rfl) ?_
    have hnl := nameW_len short _ (lowL q.Name) st0.1 st0.2 (Nat.le_refl _)
    rw [lowL_len] at hnl
    refine rwname_c W9 (fun b hb => by omega) q.Name (by omega) hq2 (by omega) (by omega) hS9 fun h10 P10 f10 W10 hP10 hS10 => ⟨rfl, ?_⟩
    have f10' := f9.trans f10
    have z10 := f10'.size
    refine ldS_mk W10.cell (ldL_mk ((dcell f10').at (j := 2) rfl) (ix (ldI_mk ((cc.fr0 (lift f10')).at (j := 1) rfl) ?_)))
    rw [nat_toInt hkt]
    refine rput_c 2 q.Type_.toNat (by omega) (by omega) (by omega) fun h11 f11 => ⟨_, rfl, ldS_ (W10.fr0 f11).cell, ?_⟩
    simp only [four0, two01, two00, bs_append, bs_size, imax, List.length_append, beB_len]
    refine ⟨by omega, by omega, ?_⟩
    refine (W10.fr0 f11).set _ fun h12 f12 z12 W12 => ?_
    rw [wr (by omega) (by omega)]
    refine hK3 (u.xs.length - (i + 1)) _ _ (by omega) ⟨i + 1, P10, rfl, hlt, rfl, (f10'.trans (f11.mono fun _ h => h.elim)).trans f12, ?_, by omega, ?_, by omega⟩
    · rw [hfold]; exact W12
    · intro hs; rw [hfold]; exact hS10 hs
  have hiu' : i = u.xs.length := by omega
  subst hiu'
  rw [List.take_length] at W9 hl9 hS9
  unfold ref29_encode_b2
  have hul : u.xs.length ≤ 8 := by omega
  unfold msgW at hk
  generalize u.xs.foldl (qW short) (headW idn fln u.xs.length w.xs.length, []) = st1 at *
  refine LoopV.go (fun n st h' => ∃ (i : Nat) (P : List (Nm × Nat)), st = (i : Int) ∧ i ≤ w.xs.length ∧ n = w.xs.length - i ∧ Fr (fun b => h.size ≤ b ∧ b ≠ t2.block) h7 h' ∧ RW (fun b => h.size ≤ b ∧ b ≠ t2.block) h' wb short P ((w.xs.take i).foldl (rW short) st1).1 ∧ P.length ≤ 10000 + 2000 * i ∧ (short = true → ((w.xs.take i).foldl (rW short) st1).2 = near P) ∧ ((w.xs.take i).foldl (rW short) st1).1.length ≤ 600000 + i * 140000) w.xs.length
    ⟨0, P, rfl, by omega, rfl, f9, W9, by omega, hS9, by show st1.1.length ≤ _; omega⟩ ?_
  clear f9 W9 hP9 hS9 hl9 z9 F9
  rintro n - h9 ⟨i, P, rfl, hiw, rfl, f9, W9, hP9, hS9, hl9⟩ Kn5 hK5
  have z9 := f9.size
  have F9 := lift f9
  unfold ref29_encode_l3
  refine ldL_mk ((dcell f9).at (j := 3) rfl) (ifD (fun e7 => ?_) fun e7 => ?_)
  · have hlt : i < w.xs.length := by omega
    have hr0 := rE_ok (hra _ (List.getElem_mem hlt))
    have hfold := foldl_take (rW short) st1 w.xs i hlt
    obtain ⟨ad, had, cc, _⟩ := ow.at_ i hlt
    have cc : Cells h (ad.add (i * 4)) [.string (bs w.xs[i].Name), .int .i64 w.xs[i].Type_, .int .i64 w.xs[i].Ttl, .string (bs w.xs[i].Data)] := cc
    have ix : ∀ {K : Addr → Prop}, K ad → idxA (i : Int) w.xs.length (nn w.p fun a => K a) := fun hK => idxA_mk i rfl hlt (by rw [had]; exact nn_mk hK)
    generalize (w.xs.take i).foldl (rW short) st1 = st0 at *
    generalize w.xs[i] = x at *
    obtain ⟨hq1, hq2, ⟨kt, hkt, hktl⟩, ⟨kl, hkl, hkll⟩, hdl, hsk, hdv⟩ := hr0
    have hil : i < 32 := by omega
    have cc9 := cc.fr0 F9
    refine ldL_mk ((dcell f9).at (j := 3) rfl) (ix ?_)
    rw [Int.toNat_natCast]
    refine ldS_mk (cc9.at0 rfl) (ldI_mk (cc9.at (j := 1) rfl) (ldI_mk (cc9.at (j := 2) rfl) (ldS_mk (cc9.at (j := 3) rfl) ?_)))
    refine al_mk (vs := [.string (bs []), .int .i64 0, .int .i64 0, .string (bs [])]) fun t10 h12 f12 e12 o12 => ?_
    refine stN_own o12 (ws := [.string (bs x.Name), .int .i64 x.Type_, .int .i64 x.Ttl, .string (bs x.Data)]) (by rfl) (by rfl) fun h13 f13 z13 o13 => ?_
    have z12 := f12.size
    have F13 : Fr (fun _ => False) h9 h13 := f12.tr f13 fun b hb hi => by omega
    have W13 : RW (fun b => (h.size ≤ b ∧ b ≠ t2.block) ∧ b ≠ t10.block) h13 wb short P st0.1 := (W9.to (ok' := fun b => (h.size ≤ b ∧ b ≠ t2.block) ∧ b ≠ t10.block) fun b hb h => ⟨h, by omega⟩).fr0 F13
    have l13 := o13.lt
    have hok13 : ∀ b, h13.size ≤ b → (h.size ≤ b ∧ b ≠ t2.block) ∧ b ≠ t10.block := fun b hb => by omega
    have hnl := nameW_len short _ (lowL x.Name) st0.1 st0.2 (Nat.le_refl _)
    rw [lowL_len] at hnl
    refine ldS_mk (o13.cells.at0 rfl) ?_
    refine rwname_c W13 hok13 x.Name (by omega) hq2 (by omega) (by omega) hS9 fun h14 P14 f14 W14 hP14 hS14 => ⟨rfl, ?_⟩
    have z14 := f14.size
    have o14 := o13.fr f14 fun h => h.2 rfl
    have hT := nat_toInt hkt
    have hL := nat_toInt hkl
    refine ldS_mk W14.cell (ldI_mk (o14.cells.at (j := 1) rfl) (ldI_mk (o14.cells.at (j := 2) rfl) ?_))
    rw [hT, hL]
    refine rput_c 2 x.Type_.toNat (by omega) (by omega) (by omega) fun h15 f15 => ⟨_, rfl, ldS_ (W14.fr0 f15).cell, ?_⟩
    have o15 := o14.fr0 f15
    rw [← hL]
    refine ⟨ldI_ (o15.cells.at (j := 2) rfl), ?_⟩
    rw [hL]
    simp only [four0, two01, two00, bs_append, bs_size, imax, List.length_append, beB_len]
    refine ⟨by omega, by omega, ?_⟩
    refine rput_c 4 x.Ttl.toNat (by omega) (by omega) (by omega) fun h16 f16 => ⟨_, rfl, ldS_ ((W14.fr0 f15).fr0 f16).cell, ?_⟩
    simp only [four0, two01, two00, bs_append, bs_size, imax, List.length_append, beB_len]
    refine ⟨by omega, ?_⟩
    refine ((W14.fr0 f15).fr0 f16).set _ fun h17 f17 z17 W17 => ?_
    have F17 : Fr (fun b => (h.size ≤ b ∧ b ≠ t2.block) ∧ b ≠ t10.block) h13 h17 := (f14.trans ((f15.trans f16).mono fun _ h => h.elim)).trans f17
    have o17 := ((o15.fr0 f16).fr f17 fun h => h.2 rfl)
    have hS1 : short = true → (nameW short (lowL x.Name) st0.1 st0.2).2 = near P14 := hS14
    have hdlen := dataW_len short x.Type_ x.Data ((nameW short (lowL x.Name) st0.1 st0.2).1 ++ beB 2 x.Type_.toNat ++ beB 2 1 ++ beB 4 x.Ttl.toNat) (nameW short (lowL x.Name) st0.1 st0.2).2 hdl (hdv.imp id fun h => h.2)
    simp only [List.length_append, beB_len] at hdlen
    have hrW : rW short st0 x = dataW short x.Type_ x.Data ((nameW short (lowL x.Name) st0.1 st0.2).1 ++ beB 2 x.Type_.toNat ++ beB 2 1 ++ beB 4 x.Ttl.toNat) (nameW short (lowL x.Name) st0.1 st0.2).2 := rfl
    rw [← hrW] at hdlen
    have hkk : ∀ h', Fr (fun b => (h.size ≤ b ∧ b ≠ t2.block) ∧ b ≠ t10.block) h17 h' → ∀ P', RW (fun b => (h.size ≤ b ∧ b ≠ t2.block) ∧ b ≠ t10.block) h' wb short P' (rW short st0 x).1 → P'.length ≤ P14.length + 1000 → (short = true → (rW short st0 x).2 = near P') → Kn5 ((i + 1 : Nat) : Int) h' := fun h' f P' W' hP' hS' => by
      refine hK5 (w.xs.length - (i + 1)) _ _ (by omega) ⟨i + 1, P', rfl, hlt, rfl, ?_, ?_, by omega, ?_, ?_⟩
      · exact (f9.trans (F13.mono fun _ h => h.elim)).trans ((F17.trans f).mono fun b h => h.1)
      · rw [hfold]; exact W'.to fun b _ h => h.1
      · intro hs; rw [hfold]; exact hS' hs
      · rw [hfold]; omega
    rw [hrW] at hkk hdlen
    clear hK5 hrW
    have ho1 : ((nameW short (lowL x.Name) st0.1 st0.2).1 ++ beB 2 x.Type_.toNat ++ beB 2 1 ++ beB 4 x.Ttl.toNat).length = (nameW short (lowL x.Name) st0.1 st0.2).1.length + 8 := by simp only [List.length_append, beB_len]
    have ho2 : (nameW short (lowL x.Name) st0.1 st0.2).1.length ≤ st0.1.length + 600 := by omega
    clear W9 W13 W14
    generalize ((nameW short (lowL x.Name) st0.1 st0.2).1 ++ beB 2 x.Type_.toNat ++ beB 2 1 ++ beB 4 x.Ttl.toNat) = o1' at *
    generalize (nameW short (lowL x.Name) st0.1 st0.2).2 = S1 at *
    refine ldS_mk W17.cell (ldS_mk W17.cell ?_)
    simp only [four0, two01, two00, bs_append, bs_size, imax, List.length_append, beB_len]
    refine ⟨by omega, W17.set _ fun h18 f18 z18 W18 => ?_⟩
    have o18 := o17.fr f18 fun h => h.2 rfl
    refine ldI_mk (o18.cells.at (j := 1) rfl) (named_c x.Type_ ⟨_, rfl, ?_⟩)
    have hb0 : (o1' ++ beB 2 0).length = o1'.length + 2 := by rw [List.length_append, beB_len]
    have z17 := F17.size
    unfold dataW at hkk hdlen
    refine ifD (fun eneg => ?_) fun eneg => ?_
    · have eb : bodyW short x.Type_ x.Data o1' S1 = (o1' ++ beB 2 0 ++ x.Data, S1) := by unfold bodyW; rw [if_pos eneg]
      rw [eb] at hkk hdlen
      refine ldS_mk W18.cell (ldS_mk (o18.cells.at (j := 3) rfl) ?_)
      rw [bs_append, bs_size, bs_size, hb0]
      refine ⟨by omega, W18.set _ fun h20 f20 z20 W20 => ?_⟩
      refine rencode_b4 W20 o1'.length i ?_ ?_ ?_ (by omega) fun h' f' W' => ?_
      · rw [List.length_append]; omega
      · rw [List.length_append, hb0]; omega
      · rw [List.length_append, hb0]; omega
      · exact hkk h' ((f18.trans f20).trans f') P14 W' (by omega) hS1
    · have eb : bodyW short x.Type_ x.Data o1' S1 = nameW short (lowL (x.Data.drop (skipI x.Type_).toNat)) (o1' ++ beB 2 0 ++ x.Data.take (skipI x.Type_).toNat) S1 := by unfold bodyW; rw [if_neg eneg]
      rw [eb] at hkk hdlen
      obtain ⟨hv1, hv2⟩ := hdv.resolve_left eneg
      obtain ⟨sk, hsk0⟩ : ∃ sk : Nat, skipI x.Type_ = sk := ⟨(skipI x.Type_).toNat, by omega⟩
      rw [hsk0, Int.toNat_natCast] at hkk hdlen hsk hv1
      rw [hsk0]
      have htk : (o1' ++ beB 2 0 ++ x.Data.take sk).length = o1'.length + 2 + sk := by rw [List.length_append, hb0, List.length_take]; omega
      have hnl2 := nameW_len short _ (lowL (x.Data.drop sk)) (o1' ++ beB 2 0 ++ x.Data.take sk) S1 (Nat.le_refl _)
      rw [lowL_len, List.length_drop, htk] at hnl2
      refine ldS_mk W18.cell (ldS_mk (o18.cells.at (j := 3) rfl) (slT x.Data sk rfl hsk ?_))
      rw [bs_append, bs_size, bs_size, List.length_take, hb0]
      refine ⟨by omega, W18.set _ fun h21 f21 z21 W21 => ?_⟩
      have o21 := o18.fr f21 fun h => h.2 rfl
      refine ldS_mk (o21.cells.at (j := 3) rfl) (slF x.Data sk rfl hsk ?_)
      refine rwname_c W21 (fun b hb => hok13 b (by omega)) (x.Data.drop sk) (by rw [List.length_drop]; omega) hv1 (by omega) (by omega) hS1 fun h22 P22 f22 W22 hP22 hS22 => ⟨rfl, ?_⟩
      rw [List.length_drop] at hP22
      refine rencode_b4 W22 o1'.length i (by omega) (by omega) (by omega) (by omega) fun h' f' W' => ?_
      exact hkk h' (((f18.trans f21).trans f22).trans f') P22 W' (by omega) hS22
  have hiw' : i = w.xs.length := by omega
  subst hiw'
  rw [List.take_length] at W9 hl9 hS9
  generalize w.xs.foldl (rW short) st1 = st2 at *
  unfold ref29_encode_b5
  refine ldS_mk W9.cell ?_
  rw [bs_size]
  refine ifD (fun e8 => ?_) fun e8 => ?_
  · rw [if_pos (by omega)] at hk
    exact hk h9 F9
  · rw [if_neg (by omega)] at hk
    exact ldS_mk W9.cell (hk h9 F9)
section
variable {h : Heap} {id fl : Int} {u : Sl Qu} {w : Sl Re} {Q : Value → Heap → Prop}
theorem rEncode_c [Gh] (ou : SlOk 2 S_api_DnsQuestion.vals S_api_DnsQuestion.ok h u) (ow : SlOk 4 S_api_DnsRecord.vals S_api_DnsRecord.ok h w)
    (hk : ∀ h', Fr (fun _ => False) h h' → Q (encV false id fl u.xs w.xs) h') : CallT Tryd.prog fn_ref29_Encode #[.agg #[.int .i64 id, .int .i64 fl, .slice u.p u.xs.length u.cap, .slice w.p w.xs.length w.cap]] h Q := by
  apply ref29_Encode_s
  unfold ref29_Encode_v
  refine al_mk (vs := [.int .i64 id, .int .i64 fl, .slice u.p u.xs.length u.cap, .slice w.p w.xs.length w.cap]) fun t1 h1 f1 e1 o1 => ?_
  have c := o1.cells
  refine ldI_mk (c.at0 rfl) (ldI_mk (c.at (j := 1) rfl) (ldL_mk (c.at (j := 2) rfl) (ldL_mk (c.at (j := 3) rfl) ?_)))
  exact rencode_c (short := false) (SlOk.fr0 S_api_DnsQuestion.ok_fr f1 ou) (SlOk.fr0 S_api_DnsRecord.ok_fr f1 ow) fun h2 f2 => ⟨_, _, rfl, hk h2 (f1.trans f2)⟩
theorem rEncodeShort_c [Gh] (ou : SlOk 2 S_api_DnsQuestion.vals S_api_DnsQuestion.ok h u) (ow : SlOk 4 S_api_DnsRecord.vals S_api_DnsRecord.ok h w)
    (hk : ∀ h', Fr (fun _ => False) h h' → Q (encV true id fl u.xs w.xs) h') : CallT Tryd.prog fn_ref29_EncodeShort #[.agg #[.int .i64 id, .int .i64 fl, .slice u.p u.xs.length u.cap, .slice w.p w.xs.length w.cap]] h Q := by
  apply ref29_EncodeShort_s
  unfold ref29_EncodeShort_v
  refine al_mk (vs := [.int .i64 id, .int .i64 fl, .slice u.p u.xs.length u.cap, .slice w.p w.xs.length w.cap]) fun t1 h1 f1 e1 o1 => ?_
  have c := o1.cells
  refine ldI_mk (c.at0 rfl) (ldI_mk (c.at (j := 1) rfl) (ldL_mk (c.at (j := 2) rfl) (ldL_mk (c.at (j := 3) rfl) ?_)))
  exact rencode_c (short := true) (SlOk.fr0 S_api_DnsQuestion.ok_fr f1 ou) (SlOk.fr0 S_api_DnsRecord.ok_fr f1 ow) fun h2 f2 => ⟨_, _, rfl, hk h2 (f1.trans f2)⟩
end
end Go.Proofs.YtmjbcnbjedipdaaDoor
/-!
  Feed of the reference; what the laws ask of a message: large, small.
-/
namespace Go.Proofs.YtmjbcnbjedipdaaDoor
set_option linter.unusedSimpArgs false
set_option linter.unusedVariables false
set_option maxRecDepth 20000
open Go
open Go.IntKind (wrap)
theorem rfeed_c [Gh] {h : Heap} {t : Addr} {rest : Nm} (F : StF h t T_intrusionref29_Stream rest false) (s : Nm) (hl : rest.length + s.length ≤ 2 ^ 28) {Q : Value → Heap → Prop} (hk : FeedK h t T_intrusionref29_Stream rest s Q) : CallT Tryd.prog fn_ref29_Stream_Feed #[.pointer (some t), .string (bs s)] h Q := by
  obtain ⟨r, o, e⟩ := F.own
  have e := e rfl
  subst e
  apply ref29_Stream_Feed_s
  unfold ref29_Stream_Feed_v
  refine ifNS (nn_mk (ldB_mk (o.cells.at (j := 1) rfl) ?_))
  rw [if_neg Bool.false_ne_true]
  refine nn_mk (ldS_mk (o.cells.at0 rfl) ?_)
  rw [bs_size, bs_size, bs_append, imax]
  have lt := o.lt
  refine ⟨by omega, nn_mk (st1_own0 o (by simp) rfl fun h1 f1 s1 o1 => ?_)⟩
  unfold FeedK at hk
  have hsl : (r ++ s).length ≤ 2 ^ 28 := by rw [List.length_append]; exact hl
  generalize r ++ s = s0 at *
  refine al_mk (vs := []) fun t23 h2 f2 e2 o2 => ?_
  have R0 : Row 1 strV h2 (some t23) 0 ([] : List Nm) := Row.of_own (L := []) (T := T_string) strV_len o2
  have f12 := f1.trans (f2.mono (S' := fun b => b = t.block) fun _ h => h.elim)
  have z1 := f1.size
  refine LoopV.go (fun n st h' => ∃ (cur : Nm) (out : List Nm), st.2.1 = out.length ∧ n = cur.length ∧ cur.length + out.length ≤ s0.length ∧ Fr (fun b => b = t.block) h h' ∧ Own h' t [.string (bs cur), .bool false] T_intrusionref29_Stream ∧ Row 1 strV h' st.1 st.2.2 out ∧ (∀ b, InA st.1 b → h.size ≤ b) ∧ feedS s0 = (out ++ (feedS cur).1, (feedS cur).2)) s0.length
    ⟨s0, [], rfl, rfl, by simp, f12, o1.fr0 f2, R0, fun b hb => (by obtain ⟨ad, he, hb⟩ := hb; cases he; omega), rfl⟩ ?_
  rintro n ⟨p, n1, c⟩ h2 ⟨cur, out, hn1, rfl, hlen, f2, o2, R2, hp, hf⟩ Kn hK
  have hn1 : n1 = out.length := hn1
  subst hn1
  unfold ref29_Stream_Feed_l1
  dsimp only at R2 hp ⊢
  have z2 := f2.size
  have l2 := o2.lt
  refine nn_mk (ldS_mk (o2.cells.at0 rfl) ?_)
  rw [bs_size]
  refine ifD (fun e1 => ?_) fun e1 => ?_
  · have h2' : ¬ cur.length < 2 := by omega
    refine nn_mk (ldS_mk (o2.cells.at0 rfl) ?_)
    refine rnumber_c cur 0 2 (by omega) (by omega) (by omega) (by omega) rfl ⟨_, rfl, ?_⟩
    have hnum : valB ((cur.drop 0).take 2) = num cur 0 2 := rfl
    rw [hnum]
    have hnl := num2_lt cur 0
    generalize hnn : num cur 0 2 = nn at *
    refine ifD (fun e2 => ?_) fun e2 => ?_
    · rw [feedS_bad h2' (by omega)] at hf
      refine nn_mk (st1_own o2 1 (by simp) rfl fun h4 f4 s4 o4 => ?_)
      rw [hf, List.append_nil] at hk
      refine hk p c h4 (f2.trans f4) (R2.fr f4 fun b hb h => by have := hp b hb; have := o.lt; omega) hp ⟨_, o4, fun h => by cases h⟩
    refine nn_mk (ldS_mk (o2.cells.at0 rfl) ?_)
    have w2 : wrap .i64 (2 + (nn : Int)) = ((2 + nn : Nat) : Int) := by rw [wr (by omega) (by omega)]; omega
    rw [w2, bs_size]
    refine ifD (fun e3 => ?_) fun e3 => ?_
    · rw [feedS_wait h2' (by omega) (by omega)] at hf
      rw [hf, List.append_nil] at hk
      exact hk p c h2 f2 R2 hp ⟨_, o2, fun _ => rfl⟩
    rw [feedS_go h2' (by omega) (by omega), hnn] at hf
    refine nn_mk (ldS_mk (o2.cells.at0 rfl) (slS cur 2 (2 + nn) rfl rfl (by omega) (by omega) ?_))
    rw [Nat.add_sub_cancel_left]
    refine al_mk (vs := strV ((cur.drop 2).take nn)) fun b h3 f3 e3' o3 => ?_
    have z3 := f3.size
    refine appS (R2.fr0 f3) o3 (by omega) fun p' c' h4 R4 f4 hn4 => ⟨_, _, _, rfl, ?_⟩
    have nt : ¬ InA p t.block := fun hi => by have := hp _ hi; omega
    have o4 := (o2.fr0 f3).fr f4 nt
    refine nn_mk (ldS_mk (o4.cells.at0 rfl) (slF cur (2 + nn) rfl (by omega) (nn_mk ?_)))
    refine st1_own0 o4 (by simp) rfl fun h5 f5 s5 o5 => ?_
    have hp' : ∀ b, InA p' b → h.size ≤ b := fun b hb => by
      rcases hn4 b hb with h | h
      · exact hp b h
      · omega
    refine hK (cur.drop (2 + nn)).length _ _ (by rw [List.length_drop]; omega) ⟨cur.drop (2 + nn), out ++ [(cur.drop 2).take nn], rfl, rfl, by rw [List.length_drop, List.length_append]; simp; omega, ?_, o5, R4.fr f5 fun b hb h => by have := hp' b hb; have := o.lt; omega, hp', by rw [hf]; simp⟩
    exact ((f2.trans (f3.mono fun _ h => h.elim)).tr f4 fun b hb hi => by have := hp b hi; omega).trans f5
  · rw [feedS_short (s := cur) (by omega)] at hf
    rw [hf, List.append_nil] at hk
    exact hk p c h2 f2 R2 hp ⟨_, o2, fun _ => rfl⟩
end Go.Proofs.YtmjbcnbjedipdaaDoor
/-!
  What the laws ask of a message: large, small.
-/
namespace Go.Proofs.YtmjbcnbjedipdaaDoor
set_option linter.unusedSimpArgs false
set_option linter.unusedVariables false
set_option maxRecDepth 20000
open Go
open Go.IntKind (wrap)
section
variable {h : Heap} {id fl : Int} {u : Sl Qu} {w : Sl Re} {Q : Value → Heap → Prop}
theorem large_c [Gh] (ou : SlOk 2 S_api_DnsQuestion.vals S_api_DnsQuestion.ok h u) (ow : SlOk 4 S_api_DnsRecord.vals S_api_DnsRecord.ok h w)
    (hT : ∀ h', Fr (fun _ => False) h h' → Q (.bool true) h')
    (hk : u.xs.length ≤ 60 → w.xs.length ≤ 60 → (∀ q ∈ u.xs, q.Name.length ≤ 2000) → (∀ r ∈ w.xs, r.Name.length ≤ 2000 ∧ r.Data.length ≤ 2000) → ∀ h', Fr (fun _ => False) h h' → Q (.bool false) h') : CallT Tryd.prog fn_law29_large #[.agg #[.int .i64 id, .int .i64 fl, .slice u.p u.xs.length u.cap, .slice w.p w.xs.length w.cap]] h Q := by
  apply law29_large_s
  unfold law29_large_v
  refine al_mk (vs := [.int .i64 id, .int .i64 fl, .slice u.p u.xs.length u.cap, .slice w.p w.xs.length w.cap]) fun t1 h1 f1 e1 o1 => ?_
  have c := o1.cells
  refine ldL_mk (c.at (j := 2) rfl) (ifD (fun _ => hT h1 f1) fun e2 => ?_)
  refine ldL_mk (c.at (j := 3) rfl) (ifD (fun _ => hT h1 f1) fun e3 => ?_)
  refine ldL_mk (c.at (j := 2) rfl) ?_
  refine LoopV.go (fun n st h' => ∃ i : Nat, st = (i : Int) ∧ i ≤ u.xs.length ∧ n = u.xs.length - i ∧ h' = h1 ∧ ∀ q ∈ u.xs.take i, q.Name.length ≤ 2000) u.xs.length ⟨0, rfl, by omega, rfl, rfl, by simp⟩ ?_
  rintro n - h2 ⟨i, rfl, hi, rfl, rfl, hq⟩ Kn hK
  unfold law29_large_l1
  refine ifD (fun e4 => ?_) fun e4 => ?_
  · have hlt : i < u.xs.length := by omega
    refine ldL_mk (c.at (j := 2) rfl) (idx_sl (SlOk.fr0 S_api_DnsQuestion.ok_fr f1 ou) i rfl hlt fun ad cc _ => ?_)
    have cc : Cells h2 (ad.add (i * 2)) [.string (bs u.xs[i].Name), .int .i64 u.xs[i].Type_] := cc
    rw [Int.toNat_natCast]
    refine ldS_mk (cc.at0 rfl) ?_
    rw [bs_size]
    refine ifD (fun _ => hT h2 f1) fun e5 => ?_
    rw [wr (by omega) (by omega)]
    refine hK (u.xs.length - (i + 1)) _ _ (by omega) ⟨i + 1, rfl, hlt, rfl, rfl, fun q hm => ?_⟩
    rw [show u.xs.take (i + 1) = u.xs.take i ++ [u.xs[i]] by rw [List.take_append_getElem]] at hm
    rcases List.mem_append.1 hm with h | h
    · exact hq q h
    · rw [List.mem_singleton] at h; subst h; omega
  rw [List.take_of_length_le (by omega)] at hq
  unfold law29_large_b2
  refine ldL_mk (c.at (j := 3) rfl) ?_
  refine LoopV.go (fun n st h' => ∃ i : Nat, st = (i : Int) ∧ i ≤ w.xs.length ∧ n = w.xs.length - i ∧ h' = h2 ∧ ∀ r ∈ w.xs.take i, r.Name.length ≤ 2000 ∧ r.Data.length ≤ 2000) w.xs.length ⟨0, rfl, by omega, rfl, rfl, by simp⟩ ?_
  rintro n - h3 ⟨i, rfl, hi, rfl, rfl, hr⟩ Kn hK
  unfold law29_large_l3
  refine ifD (fun e4 => ?_) fun e4 => ?_
  · have hlt : i < w.xs.length := by omega
    obtain ⟨ad, had, cc, _⟩ := (SlOk.fr0 S_api_DnsRecord.ok_fr f1 ow).at_ i hlt
    have cc : Cells h3 (ad.add (i * 4)) [.string (bs w.xs[i].Name), .int .i64 w.xs[i].Type_, .int .i64 w.xs[i].Ttl, .string (bs w.xs[i].Data)] := cc
    have ix : ∀ {K : Addr → Prop}, K ad → idxA (i : Int) w.xs.length (nn w.p fun a => K a) := fun hK => idxA_mk i rfl hlt (by rw [had]; exact nn_mk hK)
    refine ldL_mk (c.at (j := 3) rfl) (ix ?_)
    rw [Int.toNat_natCast]
    refine ldS_mk (cc.at0 rfl) ?_
    rw [bs_size]
    refine ifD (fun _ => hT h3 f1) fun e5 => ?_
    refine ldL_mk (c.at (j := 3) rfl) (ix (ldS_mk (cc.at (j := 3) rfl) ?_))
    rw [bs_size]
    refine ifD (fun _ => hT h3 f1) fun e6 => ?_
    rw [wr (by omega) (by omega)]
    refine hK (w.xs.length - (i + 1)) _ _ (by omega) ⟨i + 1, rfl, hlt, rfl, rfl, fun r hm => ?_⟩
    rw [show w.xs.take (i + 1) = w.xs.take i ++ [w.xs[i]] by rw [List.take_append_getElem]] at hm
    rcases List.mem_append.1 hm with h | h
    · exact hr r h
    · rw [List.mem_singleton] at h; subst h; omega
  rw [List.take_of_length_le (by omega)] at hr
  exact hk (by omega) (by omega) hq hr h3 f1
def dataL (k : Int) (s : Nm) : Nm := if skipI k < 0 then s else s.take (skipI k).toNat ++ lowL (s.drop (skipI k).toNat)
def smQ (q : Qu) : Qu := { q with Name := lowL q.Name }
def smR (x : Re) : Re := { x with Name := lowL x.Name, Data := dataL x.Type_ x.Data }
def smM (id fl : Int) (qs : List Qu) (rs : List Re) : Msg := ⟨id, fl, qs.map smQ, rs.map smR⟩
theorem small_b4 [Gh] {h0 h : Heap} {W : Nat → Prop} {d1 t2 d : Addr} {m : Msg} (M : MF h0 h W t2 d m) (hl : m.rs.length ≤ 1000) (hW : ∀ b, W b → b < h.size) {x : Addr} {q : Re} {T : TypeId} (ox : Own h x q.vals T) {t37 : Int} {i : Nat} (hi : i ≤ 1000) {Q : Value → Heap → Prop} {Kn : Int → Heap → Prop}
    (hk : ∀ h', MF h0 h' W t2 d { m with rs := m.rs ++ [q] } → Fr (fun b => ¬ W b) h h' → Kn ((i + 1 : Nat) : Int) h') : law29_small_b4 d1 t2 d x t37 (i : Int) Q Kn h := by
  unfold law29_small_b4
  refine M.cellR fun p n c hc => ?_
  have cx : Cells h x [.string (bs q.Name), .int .i64 q.Type_, .int .i64 q.Ttl, .string (bs q.Data)] := ox.cells
  refine ldS_mk (cx.at0 rfl) (ldI_mk (cx.at (j := 1) rfl) (ldI_mk (cx.at (j := 2) rfl) (ldS_mk (cx.at (j := 3) rfl) ?_)))
  refine al_mk (vs := q.vals) fun t82 h1 f1 e1 o1 => ?_
  have z1 := f1.size
  refine (M.fr0 f1).pushR hl (fun b hb => by have := hW b hb; omega) (f1.hcell hc id) o1 fun h2 M2 f2 => ?_
  rw [wr (by omega) (by omega)]
  exact hk h2 M2 ((f1.mono fun _ h => h.elim).trans f2)
set_option maxHeartbeats 1000000 in
theorem smallM_c [Gh] (ou : SlOk 2 S_api_DnsQuestion.vals S_api_DnsQuestion.ok h u) (ow : SlOk 4 S_api_DnsRecord.vals S_api_DnsRecord.ok h w) (hul : u.xs.length ≤ 1000) (hwl : w.xs.length ≤ 1000) (hq : ∀ q ∈ u.xs, q.Name.length ≤ 2 ^ 20) (hr : ∀ r ∈ w.xs, r.Name.length ≤ 2 ^ 20 ∧ r.Data.length ≤ 2 ^ 20)
    (hk : ∀ p1 c1 p2 c2 h', Fr (fun _ => False) h h' → Row 2 S_api_DnsQuestion.vals h' p1 c1 (u.xs.map smQ) → Row 4 S_api_DnsRecord.vals h' p2 c2 (w.xs.map smR) → Q (.agg #[.int .i64 id, .int .i64 fl, .slice p1 (u.xs.map smQ).length c1, .slice p2 (w.xs.map smR).length c2]) h') :
    CallT Tryd.prog fn_law29_small #[.agg #[.int .i64 id, .int .i64 fl, .slice u.p u.xs.length u.cap, .slice w.p w.xs.length w.cap]] h Q := by
  apply law29_small_s
  unfold law29_small_v
  refine al_mk (vs := [.int .i64 id, .int .i64 fl, .slice u.p u.xs.length u.cap, .slice w.p w.xs.length w.cap]) fun t1 h1 f1 e1 o1 => ?_
  refine al_mk (vs := [.int .i64 0, .int .i64 0, .slice none 0 0, .slice none 0 0]) fun t2 h2 f2 e2 o2 => ?_
  have o12 := o1.fr0 f2
  have c2 := o12.cells
  refine ldI_mk (c2.at0 rfl) (ldI_mk (c2.at (j := 1) rfl) ?_)
  refine al_mk (vs := [.int .i64 0, .int .i64 0, .slice none 0 0, .slice none 0 0]) fun d h3 f3 e3 o3 => ?_
  refine stN_own o3 (ws := [.int .i64 id, .int .i64 fl, .slice none 0 0, .slice none 0 0]) (by rfl) (by rfl) fun h4 f4 _ o4 => ?_
  have z1 := f1.size
  have z2 := f2.size
  have z3 := f3.size
  have z4 := f4.size
  have l1 := o1.lt
  have l2 := o2.lt
  have o14 := (o12.fr0 f3).fr f4 (by omega)
  have M4 : MF h h4 (fun b => b = t1.block) t2 d ⟨id, fl, [], []⟩ := ⟨((f1.trans f2).trans f3).tr f4 fun b hb hi => by omega, (o2.fr0 f3).fr f4 (by omega), ⟨none, 0, none, 0, o4, Row.nil, Row.nil, fun b hb => (notInA hb).elim, fun b hb => (notInA hb).elim⟩, by omega, by omega, by omega⟩
  refine ldL_mk (o14.cells.at (j := 2) rfl) ?_
  refine LoopV.go (fun n st h' => ∃ i : Nat, st = (i : Int) ∧ i ≤ u.xs.length ∧ n = u.xs.length - i ∧ MF h h' (fun b => b = t1.block) t2 d ⟨id, fl, (u.xs.take i).map smQ, []⟩ ∧ Fr (fun b => ¬ b = t1.block) h4 h') u.xs.length ⟨0, rfl, by omega, rfl, M4, Fr.refl _ _⟩ ?_
  rintro n - h5 ⟨i, rfl, hi, rfl, M5, f5⟩ Kn hK
  have z5 := f5.size
  have c5 := (o14.fr f5 fun h => h rfl).cells
  unfold law29_small_l1
  refine ifD (fun e5 => ?_) fun e5 => ?_
  · have hlt : i < u.xs.length := by omega
    have hql := hq _ (List.getElem_mem hlt)
    refine ldL_mk (c5.at (j := 2) rfl) (idx_sl (SlOk.fr0 S_api_DnsQuestion.ok_fr M5.fr ou) i rfl hlt fun ad cc _ => ?_)
    have cc : Cells h5 (ad.add (i * 2)) [.string (bs u.xs[i].Name), .int .i64 u.xs[i].Type_] := cc
    rw [Int.toNat_natCast]
    refine ldS_mk (cc.at0 rfl) (ldI_mk (cc.at (j := 1) rfl) ?_)
    refine al_mk (vs := [.string (bs []), .int .i64 0]) fun t5 h6 f6 e6 o6 => ?_
    refine stN_own o6 (ws := [.string (bs u.xs[i].Name), .int .i64 u.xs[i].Type_]) (by rfl) (by rfl) fun h7 f7 _ o7 => ?_
    have F7 : Fr (fun _ => False) h5 h7 := f6.tr f7 fun b hb hi => by omega
    refine ldS_mk (o7.cells.at0 rfl) (lawLower_c _ (by omega) fun h8 f8 => ⟨_, rfl, ?_⟩)
    refine st1_own0 (o7.fr0 f8) (by simp) rfl fun h9 f9 _ o9 => ?_
    have z6 := f6.size
    have F9 : Fr (fun _ => False) h5 h9 := (F7.trans f8).tr f9 fun b hb hi => by omega
    have M9 := M5.fr0 F9
    have z9 := F9.size
    refine M9.cellQ fun p n c hc => ?_
    refine ldS_mk (o9.cells.at0 rfl) (ldI_mk (o9.cells.at (j := 1) rfl) ?_)
    refine al_mk (vs := (smQ u.xs[i]).vals) fun t31 h10 f10 e10 o10 => ?_
    have z10 := f10.size
    refine (M9.fr0 f10).pushQ (by show ((u.xs.take i).map smQ).length ≤ 1000; rw [List.length_map, List.length_take]; omega) (fun b hb => by omega) (f10.hcell hc fun h => h) o10 fun h11 M11 f11 => ?_
    rw [wr (by omega) (by omega)]
    refine hK (u.xs.length - (i + 1)) _ _ (by omega) ⟨i + 1, rfl, hlt, rfl, ?_, (f5.trans ((F9.trans f10).mono fun _ h => h.elim)).trans f11⟩
    rw [show u.xs.take (i + 1) = u.xs.take i ++ [u.xs[i]] by rw [List.take_append_getElem], List.map_append]
    exact M11
  rw [List.take_of_length_le (by omega)] at M5
  unfold law29_small_b2
  refine ldL_mk (c5.at (j := 3) rfl) ?_
  refine LoopV.go (fun n st h' => ∃ i : Nat, st = (i : Int) ∧ i ≤ w.xs.length ∧ n = w.xs.length - i ∧ MF h h' (fun b => b = t1.block) t2 d ⟨id, fl, u.xs.map smQ, (w.xs.take i).map smR⟩ ∧ Fr (fun b => ¬ b = t1.block) h4 h') w.xs.length ⟨0, rfl, by omega, rfl, M5, f5⟩ ?_
  clear M5 f5 c5 z5
  rintro n - h5 ⟨i, rfl, hi, rfl, M5, f5⟩ Kn hK
  have z5 := f5.size
  have c5 := (o14.fr f5 fun h => h rfl).cells
  unfold law29_small_l3
  refine ifD (fun e5 => ?_) fun e5 => ?_
  · have hlt : i < w.xs.length := by omega
    have hrl := hr _ (List.getElem_mem hlt)
    refine ldL_mk (c5.at (j := 3) rfl) (idx_sl (SlOk.fr0 S_api_DnsRecord.ok_fr M5.fr ow) i rfl hlt fun ad cc _ => ?_)
    have cc : Cells h5 (ad.add (i * 4)) [.string (bs w.xs[i].Name), .int .i64 w.xs[i].Type_, .int .i64 w.xs[i].Ttl, .string (bs w.xs[i].Data)] := cc
    rw [Int.toNat_natCast]
    have htake : (w.xs.take (i + 1)).map smR = (w.xs.take i).map smR ++ [smR w.xs[i]] := by
      rw [show w.xs.take (i + 1) = w.xs.take i ++ [w.xs[i]] by rw [List.take_append_getElem], List.map_append]; rfl
    generalize w.xs[i] = x at *
    refine ldS_mk (cc.at0 rfl) (ldI_mk (cc.at (j := 1) rfl) (ldI_mk (cc.at (j := 2) rfl) (ldS_mk (cc.at (j := 3) rfl) ?_)))
    refine al_mk (vs := [.string (bs []), .int .i64 0, .int .i64 0, .string (bs [])]) fun t7 h6 f6 e6 o6 => ?_
    refine stN_own o6 (ws := [.string (bs x.Name), .int .i64 x.Type_, .int .i64 x.Ttl, .string (bs x.Data)]) (by rfl) (by rfl) fun h7 f7 _ o7 => ?_
    have F7 : Fr (fun _ => False) h5 h7 := f6.tr f7 fun b hb hi => by omega
    refine ldS_mk (o7.cells.at0 rfl) (lawLower_c _ (by omega) fun h8 f8 => ⟨_, rfl, ?_⟩)
    refine st1_own0 (o7.fr0 f8) (by simp) rfl fun h9 f9 _ o9 => ?_
    have z6 := f6.size
    have z7 := f7.size
    have F9 : Fr (fun _ => False) h5 h9 := (F7.trans f8).tr f9 fun b hb hi => by omega
    have z9 := F9.size
    have l9 := o9.lt
    have c9 := o9.cells
    refine ldI_mk (c9.at (j := 1) rfl) ?_
    have b4 : ∀ {h10 : Heap}, Fr (fun _ => False) h5 h10 → Own h10 t7 (smR x).vals T_api_DnsRecord → law29_small_b4 t1 t2 d t7 ((w.xs.length : Nat) : Int) (i : Int) Q Kn h10 := fun {h10} F10 o10 => by
      have z10 := F10.size
      refine small_b4 (M5.fr0 F10) (by show ((w.xs.take i).map smR).length ≤ 1000; rw [List.length_map, List.length_take]; omega) (fun b hb => by omega) o10 (by omega) fun h11 M11 f11 => ?_
      refine hK (w.xs.length - (i + 1)) _ _ (by omega) ⟨i + 1, rfl, hlt, rfl, ?_, (f5.trans (F10.mono fun _ h => h.elim)).trans f11⟩
      rw [htake]; exact M11
    have low : skipI x.Type_ = 0 → ldS h9 (t7.add 3) fun t57 => CallT Tryd.prog fn_law29_lower #[.string t57] h9 fun v h16 => ∃ t58 : ByteArray, v = .string t58 ∧ st1 h16 (Addr.add t7 3) (.string t58) fun h17 => law29_small_b4 t1 t2 d t7 ((w.xs.length : Nat) : Int) (i : Int) Q Kn h17 := fun hs => by
      refine ldS_mk (c9.at (j := 3) rfl) (lawLower_c _ (by omega) fun h10 f10 => ⟨_, rfl, ?_⟩)
      have z10 := f10.size
      refine st1_own (o9.fr0 f10) 3 (by simp) rfl fun h11 f11 _ o11 => ?_
      refine b4 ((F9.trans f10).tr f11 fun b hb hi => by omega) ?_
      have e : (smR x).Data = lowL x.Data := by
        show dataL x.Type_ x.Data = _
        unfold dataL; rw [hs, if_neg (by omega)]; simp
      have ev : (smR x).vals = [.string (bs (lowL x.Name)), .int .i64 x.Type_, .int .i64 x.Ttl, .string (bs (lowL x.Data))] := by rw [← e]; rfl
      rw [ev]; exact o11
    have rest : ¬ (x.Type_ = 2 ∨ x.Type_ = 5 ∨ x.Type_ = 12) → law29_small_b6 t1 t2 d t7 ((w.xs.length : Nat) : Int) (i : Int) x.Type_ Q Kn h9 := fun hn => by
      unfold law29_small_b6
      refine ifE (fun e15 => ?_) fun e15 => ?_
      · have hs : skipI x.Type_ = 2 := by unfold skipI; rw [if_neg hn, if_pos e15]
        refine ldS_mk (c9.at (j := 3) rfl) (ldS_mk (c9.at (j := 3) rfl) ?_)
        rw [bs_size]
        have hmin : (if ((x.Data.length : Nat) : Int) < (2 : Int) then ((x.Data.length : Nat) : Int) else (2 : Int)) = ((min 2 x.Data.length : Nat) : Int) := by split <;> omega
        rw [hmin]
        refine slT x.Data (min 2 x.Data.length) rfl (by omega) ?_
        refine ldS_mk (c9.at (j := 3) rfl) (ldS_mk (c9.at (j := 3) rfl) ?_)
        rw [bs_size, hmin]
        refine slF x.Data (min 2 x.Data.length) rfl (by omega) ?_
        refine lawLower_c _ (by rw [List.length_drop]; omega) fun h10 f10 => ⟨_, rfl, ?_⟩
        have z10 := f10.size
        have c10 := c9.fr0 f10
        refine ⟨ldS_ (c10.at (j := 3) rfl), ldS_ (c10.at (j := 3) rfl), ?_⟩
        rw [bs_append, bs_size, bs_size, imax, lowL_len, List.length_take, List.length_drop]
        refine ⟨by omega, ?_⟩
        refine st1_own (o9.fr0 f10) 3 (by simp) rfl fun h11 f11 _ o11 => ?_
        refine b4 ((F9.trans f10).tr f11 fun b hb hi => by omega) ?_
        have e : (smR x).Data = x.Data.take (min 2 x.Data.length) ++ lowL (x.Data.drop (min 2 x.Data.length)) := by
          show dataL x.Type_ x.Data = _
          unfold dataL; rw [hs, if_neg (by omega)]
          show x.Data.take 2 ++ lowL (x.Data.drop 2) = _
          by_cases h2 : 2 ≤ x.Data.length
          · rw [Nat.min_eq_left h2]
          · rw [Nat.min_eq_right (by omega), List.take_of_length_le (by omega), List.drop_eq_nil_of_le (by omega), List.take_length, List.drop_length]
        have ev : (smR x).vals = [.string (bs (lowL x.Name)), .int .i64 x.Type_, .int .i64 x.Ttl, .string (bs (x.Data.take (min 2 x.Data.length) ++ lowL (x.Data.drop (min 2 x.Data.length))))] := by rw [← e]; rfl
        rw [ev]; exact o11
      · refine b4 F9 ?_
        have e : (smR x).Data = x.Data := by
          show dataL x.Type_ x.Data = _
          unfold dataL; rw [if_pos (by unfold skipI; rw [if_neg hn, if_neg e15]; decide)]
        have ev : (smR x).vals = [.string (bs (lowL x.Name)), .int .i64 x.Type_, .int .i64 x.Ttl, .string (bs x.Data)] := by rw [← e]; rfl
        rw [ev]; exact o9
    refine ifE (fun e2 => ?_) fun e2 => ?_
    · rw [if_pos (by simpa using e2)]
      exact low (by unfold skipI; rw [if_pos (by omega)])
    refine ifE (fun e3 => ?_) fun e3 => ?_
    · rw [if_pos (by simpa using e3)]
      exact low (by unfold skipI; rw [if_pos (by omega)])
    refine ifE (fun e4 => ?_) fun e4 => ?_
    · exact low (by unfold skipI; rw [if_pos (by omega)])
    · exact rest (by omega)
  rw [List.take_of_length_le (by omega)] at M5
  unfold law29_small_b5
  obtain ⟨p1, k1, p2, k2, o, R1, R2, i1, i2⟩ := M5.od
  have c := o.cells
  refine ldI_mk (c.at0 rfl) (ldI_mk (c.at (j := 1) rfl) (ldL_mk (c.at (j := 2) rfl) (ldL_mk (c.at (j := 3) rfl) ?_)))
  refine stN_own M5.o2 (ws := [.int .i64 id, .int .i64 fl, .slice p1 (u.xs.map smQ).length k1, .slice p2 (w.xs.map smR).length k2]) (by rfl) (by rfl) fun h6 f6 _ o6 => ?_
  have c := o6.cells
  refine ldI_mk (c.at0 rfl) (ldI_mk (c.at (j := 1) rfl) (ldL_mk (c.at (j := 2) rfl) (ldL_mk (c.at (j := 3) rfl) ?_)))
  exact hk p1 k1 p2 k2 h6 (M5.fr.tr f6 fun b hb hi => by have := M5.ge; omega) (R1.fr f6 fun b hb h => (i1 b hb).2.2.1 h) (R2.fr f6 fun b hb h => (i2 b hb).2.2.1 h)
end
end Go.Proofs.YtmjbcnbjedipdaaDoor
