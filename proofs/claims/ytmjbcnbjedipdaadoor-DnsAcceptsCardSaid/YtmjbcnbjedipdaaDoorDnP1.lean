/-
  The messages of layer 29: what is read, on both sides.
-/
import Derived.Test.YtmjbcnbjedipdaaDoorHs
import Derived.Test.YtmjbcnbjedipdaaDoorSubSl
import Derived.Test.YtmjbcnbjedipdaaDoorTy
import Derived.Test.YtmjbcnbjedipdaaDoorG1
import Derived.Test.YtmjbcnbjedipdaaDoorG2
import Derived.Ground.NamesProg
import Derived.Shelf.Lay
import Derived.Shelf.Strings.SplitCore
import Derived.Shelf.Strings.Search3
import Derived.Shelf.Strings.Count
import Derived.Lib.SplitLaws
import Derived.Lib.CutLaws
import Derived.Lib.IndexBytes
import Derived.Test.YtmjbcnbjedipdaaDoorLoop
/-!
  The library's Split and Index at a point; letters.
-/
namespace Go.Proofs
open Go.Shelf
shelf_lay Lays.n221 Nm 221 at Tryd as Tryd.lays221
end Go.Proofs
namespace Go.Proofs.YtmjbcnbjedipdaaDoor
set_option linter.unusedSimpArgs false
set_option linter.unusedVariables false
set_option maxRecDepth 20000
open Go
open Go.IntKind (wrap)
abbrev Nm := List UInt8
/-- A text cut at its points. -/
def splitDot : Nm → List Nm
  | [] => [[]]
  | c :: l => if c = 46 then [] :: splitDot l else match splitDot l with
    | [] => [[c]]
    | x :: xs => (c :: x) :: xs
theorem splitDot_ne : ∀ l, splitDot l ≠ []
  | [] => by unfold splitDot; simp
  | c :: l => by
    unfold splitDot; split
    · simp
    · split <;> simp
theorem index_cons (b c : UInt8) (l : Nm) : Lib.index (b :: l) [c] = if b = c then 0 else if Lib.index l [c] = -1 then -1 else Lib.index l [c] + 1 := by
  rw [Lib.index_one, Lib.index_one]
  show (if _ then _ else _) = _
  unfold Lib.indexByte
  first
    | rfl
    | (by_cases h : b = c <;> simp [h])
theorem splitK_eq : ∀ (l : Nm), Lib.splitK [46] 0 (l.count 46) l = splitDot l
  | [] => rfl
  | c :: l => by
    have ih := splitK_eq l
    unfold splitDot
    by_cases h : c = 46
    · subst h
      rw [if_pos rfl, List.count_cons_self, ← ih]
      show (if _ then _ else _) = _
      have e : Lib.index (46 :: l) [46] = 0 := by rw [index_cons, if_pos rfl]
      rw [if_neg (by rw [e]; decide), e]
      rfl
    · rw [if_neg h, List.count_cons_of_ne (by simpa using h), ← ih]
      cases hk : l.count 46 with
      | zero => rfl
      | succ k =>
        unfold Lib.splitK
        have e := index_cons c 46 l
        rw [if_neg h] at e
        have hge := Lib.index_ge l [46]
        by_cases hm : Lib.index l [46] = -1
        · rw [if_pos hm] at e
          rw [if_pos (by rw [e]; rfl), if_pos (by rw [hm]; rfl)]
        · rw [if_neg hm] at e
          obtain ⟨j, hj⟩ : ∃ j : Nat, Lib.index l [46] = j := ⟨(Lib.index l [46]).toNat, by omega⟩
          rw [if_neg (by rw [e, hj, beq_iff_eq]; omega), if_neg (by rw [hj, beq_iff_eq]; omega), e, hj]
          have e1 : (((j : Int) + 1).toNat + 0) = j + 1 := by omega
          have e2 : (((j : Int) + 1).toNat + ([46] : Nm).length) = (j + 1) + 1 := by simp
          have e3 : ((j : Int).toNat + 0) = j := by omega
          have e4 : ((j : Int).toNat + ([46] : Nm).length) = j + 1 := by simp
          rw [e1, e2, e3, e4]
          rfl
def strV (s : Nm) : List Value := [.string (bs s)]
theorem strV_len (s : Nm) : (strV s).length = 1 := rfl
theorem calls_alloc [Gh] {P : Program} {f : FuncId} {args : Array Value} {h : Heap} {v : Value} {o : Obj} (hc : ∀ args w, (callFunc f args).run P w = .ok (.enter f args) w)
    (hs : ∀ w : World, w.heap = h → Calls P f args w fun e w' => e = .returned v ∧ w' = w.alloc o) {K : Value → Heap → Prop} (hk : K v (h.push o)) : CallT P f args h K := by
  intro w hw hsm
  rw [hc]
  simp only
  refine (hs w hw).mono ?_
  rintro e w' ⟨rfl, rfl⟩
  refine ⟨_, rfl, ?_, ⟨hsm.1, hsm.2.1, hsm.2.2⟩⟩
  have : (w.alloc o).heap = h.push o := by rw [← hw]; rfl
  rw [this]; exact hk
theorem calls_same [Gh] {P : Program} {f : FuncId} {args : Array Value} {h : Heap} {v : Value} (hc : ∀ args w, (callFunc f args).run P w = .ok (.enter f args) w)
    (hs : ∀ w : World, Calls P f args w fun e w' => e = .returned v ∧ w' = w) {K : Value → Heap → Prop} (hk : K v h) : CallT P f args h K := by
  intro w hw hsm
  rw [hc]
  simp only
  refine (hs w).mono ?_
  rintro e w' ⟨rfl, rfl⟩
  exact ⟨_, rfl, by rw [hw]; exact hk, hsm⟩
theorem count_le (l : Nm) : l.count 46 ≤ l.length := List.count_le_length
theorem split_c [Gh] (l : Nm) (hl : l.length ≤ 2 ^ 30) {h : Heap} {Q : Value → Heap → Prop}
    (hk : ∀ p cap h', Fr (fun _ => False) h h' → Row 1 strV h' p cap (splitDot l) → (∀ b, InA p b → h.size ≤ b) → Q (.slice p (splitDot l).length cap) h') :
    CallT Tryd.prog fn_strings_Split #[.string (bs l), .string (⟨#[46]⟩ : ByteArray)] h Q := by
  apply strings_Split_s
  unfold strings_Split_v
  have hcb : Lib.countB (bs l) ⟨#[46]⟩ = l.count 46 := by
    show Lib.count (bs l).data.toList [46] = _
    rw [bs_data, Lib.count_one]
  have hcl := count_le l
  have hlen := Lib.splitB_all (⟨#[46]⟩ : ByteArray) (by decide) 0 (l.count 46) (bs l) hcb
  have hdata := Lib.splitB_data (⟨#[46]⟩ : ByteArray) 0 (l.count 46) (bs l)
  have e46 : (⟨#[46]⟩ : ByteArray).data.toList = [46] := rfl
  rw [bs_data, e46, splitK_eq] at hdata
  have hbs : Lib.splitB (⟨#[46]⟩ : ByteArray) 0 (l.count 46) (bs l) = (splitDot l).map bs := by
    rw [← hdata, List.map_map]
    conv => lhs; rw [← List.map_id (Lib.splitB (⟨#[46]⟩ : ByteArray) 0 (l.count 46) (bs l))]
    apply List.map_congr_left
    intro x _
    show x = bs x.data.toList
    simp [bs]
  have hl2 : (splitDot l).length = l.count 46 + 1 := by rw [← hlen, hbs, List.length_map]
  refine calls_alloc (v := .slice (some ⟨h.size, 0, none⟩) (splitDot l).length (splitDot l).length) (o := .cells ((splitDot l).flatMap strV).toArray T_string) (fun _ _ => rfl) (fun w hw => ?_) ?_
  · have c := Any.strings_genSplit_core Tryd.lays221 (by kernel_rfl) (bs l) (⟨#[46]⟩ : ByteArray) 0 (-1) (l.count 46 + 1) w (by rw [bs_size]; omega) (by decide) (Nat.zero_le _)
      (fun x c hx => (Any.strings_Index_one { Tryd.lays221 with } x 46 _).mono fun e w' ⟨h1, h2⟩ => ⟨by rw [h1]; show _ = Ending.returned (.int .i64 (Lib.index x.data.toList [46])); rw [Lib.index_one], h2⟩)
      ((Any.strings_Count_one { Tryd.lays221 with } (bs l) 46 w).mono fun e w' ⟨h1, h2⟩ => ⟨by rw [h1, hcb, bs_data]; rfl, h2⟩)
      (by decide) (by decide) (by rw [hcb, if_pos (by decide), bs_size]; omega)
    rw [Nat.add_sub_cancel, hbs, List.length_map, hw] at c
    refine c.mono fun e w' ⟨h1, h2⟩ => ⟨by rw [h1, ← hl2], ?_⟩
    rw [h2, ← hl2]
    have := Lib.cellsOf_full ((splitDot l).map bs)
    rw [List.length_map] at this
    rw [this]
    have e : ((splitDot l).map bs).map Value.string = (splitDot l).flatMap strV := by
      generalize splitDot l = m
      induction m with
      | nil => rfl
      | cons a m ih => rw [List.map_cons, List.map_cons, List.flatMap_cons, ih]; rfl
    rw [e]
    rfl
  · refine ⟨_, _, _, rfl, ?_⟩
    have o : Own (h.push (.cells ((splitDot l).flatMap strV).toArray T_string)) ⟨h.size, 0, none⟩ ((splitDot l).flatMap strV) T_string := ⟨rfl, rfl, get_push_self⟩
    refine hk _ _ _ (Fr.push _ _ _) (Row.of_own strV_len o) fun b hb => ?_
    obtain ⟨ad, h1, rfl⟩ := hb
    cases h1; exact Nat.le_refl _
/-- The place of the first point. -/
theorem index_c [Gh] (l : Nm) {h : Heap} {Q : Value → Heap → Prop} (hk : Q (.int .i64 (Lib.index l [46])) h) : CallT Tryd.prog fn_internal_stringslite_Index #[.string (bs l), .string (⟨#[46]⟩ : ByteArray)] h Q :=
  calls_same (fun _ _ => rfl) (fun w => (Any.stringslite_Index_one { Tryd.lays221 with } (bs l) 46 w).mono fun e w' ⟨h1, h2⟩ => ⟨by rw [h1, bs_data], h2⟩) (by rw [Lib.index_one] at hk; exact hk)
def byteI (b : UInt8) : Int := b.toNat
theorem byteI_le (b : UInt8) : 0 ≤ byteI b ∧ byteI b ≤ 255 := by unfold byteI; have := b.toNat_lt; omega
def letterI (c : Int) : Bool := decide (97 ≤ c ∧ c ≤ 122 ∨ 65 ≤ c ∧ c ≤ 90 ∨ 48 ≤ c ∧ c ≤ 57 ∨ c = 45 ∨ c = 95)
def smallI (c : Int) : Int := if 65 ≤ c ∧ c ≤ 90 then c + 32 else c
def letterB (b : UInt8) : Bool := letterI (byteI b)
def lowB (b : UInt8) : UInt8 := if 65 ≤ b ∧ b ≤ 90 then b + 32 else b
def lowL (l : Nm) : Nm := l.map lowB
theorem wrb {x : Int} (h1 : 0 ≤ x) (h2 : x ≤ 255) : wrap .u8 x = x := wr8 h1 h2
theorem byteI_low (b : UInt8) : byteI (lowB b) = smallI (byteI b) := by
  have hb := byteI_le b
  unfold lowB smallI byteI at *
  have e : (65 ≤ b ∧ b ≤ 90) ↔ (65 ≤ (b.toNat : Int) ∧ (b.toNat : Int) ≤ 90) := by
    rw [UInt8.le_iff_toNat_le, UInt8.le_iff_toNat_le]
    show (65 ≤ b.toNat ∧ b.toNat ≤ 90) ↔ _
    omega
  by_cases h : 65 ≤ b ∧ b ≤ 90
  · rw [if_pos h, if_pos (e.1 h)]
    have h2 := (e.1 h).2
    rw [UInt8.toNat_add]
    show (((b.toNat + 32) % 256 : Nat) : Int) = _
    omega
  · rw [if_neg h, if_neg fun h' => h (e.2 h')]
theorem small_c [Gh] (c : Int) (h0 : 0 ≤ c) (h1 : c ≤ 255) {h : Heap} {Q : Value → Heap → Prop} (hk : Q (.int .u8 (smallI c)) h) : CallT Tryd.prog fn_dns_small #[.int .u8 c] h Q := by
  apply dns_small_s
  unfold dns_small_v
  unfold smallI at hk
  refine ifD (fun e => ifD (fun e2 => ?_) fun e2 => ?_) fun e => ?_
  · rw [if_pos ⟨e, e2⟩] at hk
    rw [wrb (x := c + 97) (by omega) (by omega), wrb (by omega) (by omega)]
    have : c + 97 - 65 = c + 32 := by omega
    rw [this]; exact hk
  · rw [if_neg (by omega)] at hk; exact hk
  · rw [if_neg (by omega)] at hk; exact hk
theorem allowed_c [Gh] (c : Int) (h0 : 0 ≤ c) (h1 : c ≤ 255) {h : Heap} {Q : Value → Heap → Prop} (hk : Q (.bool (letterI c)) h) : CallT Tryd.prog fn_dns_allowed #[.int .u8 c] h Q := by
  apply dns_allowed_s
  unfold dns_allowed_v
  refine small_c c h0 h1 ⟨_, rfl, ?_⟩
  unfold letterI at hk
  have hs : smallI c = c ∧ ¬ (65 ≤ c ∧ c ≤ 90) ∨ smallI c = c + 32 ∧ (65 ≤ c ∧ c ≤ 90) := by
    unfold smallI
    by_cases h : 65 ≤ c ∧ c ≤ 90
    · rw [if_pos h]; exact .inr ⟨rfl, h⟩
    · rw [if_neg h]; exact .inl ⟨rfl, h⟩
  generalize smallI c = d at *
  repeat' (first | refine ifD (fun e => ?_) fun e => ?_ | refine ifE (fun e => ?_) fun e => ?_)
  all_goals (refine Qeq hk ?_; congr 1; rw [Bool.eq_iff_iff]; simp only [decide_eq_true_eq, beq_iff_eq, Bool.false_eq_true, iff_false, iff_true]; omega)
theorem letter_c [Gh] (c : Int) {h : Heap} {Q : Value → Heap → Prop} (hk : Q (.bool (letterI c)) h) : CallT Tryd.prog fn_ref29_letter #[.int .u8 c] h Q := by
  apply ref29_letter_s
  unfold ref29_letter_v
  unfold letterI at hk
  repeat' (first | refine ifD (fun e => ?_) fun e => ?_ | refine ifE (fun e => ?_) fun e => ?_)
  all_goals (refine Qeq hk ?_; congr 1; rw [Bool.eq_iff_iff]; simp only [decide_eq_true_eq, beq_iff_eq, Bool.false_eq_true, iff_false, iff_true]; omega)
end Go.Proofs.YtmjbcnbjedipdaaDoor
/-!
  IsName of the program and of the reference.
-/
namespace Go.Proofs.YtmjbcnbjedipdaaDoor
set_option linter.unusedSimpArgs false
set_option linter.unusedVariables false
set_option maxRecDepth 20000
open Go
open Go.IntKind (wrap)
theorem slS (l : Nm) {a b : Int} (i j : Nat) (ha : a = i) (hb : b = j) (h1 : i ≤ j) (h2 : j ≤ l.length) {K : ByteArray → Prop} (hk : K (bs ((l.drop i).take (j - i)))) : sliceStr (bs l) (some a) (some b) K := by
  subst ha hb
  refine ⟨by omega, by omega, by rw [bs_size]; omega, ?_⟩
  rw [Int.toNat_natCast, Int.toNat_natCast, bs_extract]; exact hk
theorem slF (l : Nm) {a : Int} (i : Nat) (ha : a = i) (h2 : i ≤ l.length) {K : ByteArray → Prop} (hk : K (bs (l.drop i))) : sliceStr (bs l) (some a) none K := by
  subst ha
  refine ⟨by omega, by rw [bs_size]; omega, ?_⟩
  rw [Int.toNat_natCast, bs_size, bs_drop]; exact hk
theorem slT (l : Nm) {b : Int} (j : Nat) (hb : b = j) (h2 : j ≤ l.length) {K : ByteArray → Prop} (hk : K (bs (l.take j))) : sliceStr (bs l) none (some b) K := by
  subst hb
  refine ⟨by omega, by rw [bs_size]; omega, ?_⟩
  rw [Int.toNat_natCast, bs_take]; exact hk
theorem ixS (l : Nm) {n : Int} (i : Nat) (hn : n = i) (hi : i < l.length) {K : Int → Prop} (hk : K (byteI l[i])) : idxS (bs l) n K := by
  subst hn
  refine idxS_bs l _ K (by omega) (by omega) ?_
  have : l.getD (i : Int).toNat 0 = l[i] := by rw [Int.toNat_natCast, List.getD_eq_getElem?_getD, List.getElem?_eq_getElem hi]; rfl
  rw [this]; exact hk
theorem splitDot_nodot : ∀ (p : Nm), (∀ b ∈ p, b ≠ 46) → splitDot p = [p]
  | [], _ => rfl
  | c :: p, h => by
    unfold splitDot
    rw [if_neg (h c (by simp)), splitDot_nodot p fun b hb => h b (by simp [hb])]
theorem splitDot_cut : ∀ (p r : Nm), (∀ b ∈ p, b ≠ 46) → splitDot (p ++ 46 :: r) = p :: splitDot r
  | [], r, _ => by show splitDot (46 :: r) = _; conv => lhs; unfold splitDot
                   rw [if_pos rfl]
  | c :: p, r, h => by
    show splitDot (c :: (p ++ 46 :: r)) = _
    conv => lhs; unfold splitDot
    rw [if_neg (h c (by simp)), splitDot_cut p r fun b hb => h b (by simp [hb])]
def labelB (x : Nm) : Bool := decide (x ≠ []) && decide (x.length ≤ 63) && x.all letterB
def isNameB (s : Nm) : Bool := decide (s = []) || (decide (s.length ≤ 253) && decide ((splitDot s).length ≤ 24) && (splitDot s).all labelB)
theorem all_bad {α : Type} {l : List α} {f : α → Bool} {i : Nat} (hi : i < l.length) (h : f l[i] = false) : l.all f = false := by
  rw [List.all_eq_false]; exact ⟨l[i], List.getElem_mem hi, by rw [h]; decide⟩
theorem all_next {α : Type} {l : List α} {f : α → Bool} {i : Nat} (hi : i < l.length) (h : f l[i] = true) (h2 : (l.take i).all f = true) : (l.take (i + 1)).all f = true := by
  rw [show l.take (i + 1) = l.take i ++ [l[i]] by rw [List.take_append_getElem], List.all_append, h2]; simp [h]
theorem splitDot_len : ∀ l : Nm, (splitDot l).length ≤ l.length + 1
  | [] => by simp [splitDot]
  | c :: l => by
    have := splitDot_len l
    unfold splitDot; split
    · simp; omega
    · have hne := splitDot_ne l
      split
      · simp
      · rename_i h; rw [h] at this; simp at this ⊢; omega
theorem splitDot_part : ∀ (l : Nm) (x : Nm), x ∈ splitDot l → x.length ≤ l.length
  | [], x, h => by simp [splitDot] at h; subst h; simp
  | c :: l, x, h => by
    unfold splitDot at h
    split at h
    · rcases List.mem_cons.1 h with rfl | h
      · simp
      · have := splitDot_part l x h; simp; omega
    · split at h
      · simp at h; subst h; simp
      · rename_i y ys hy
        rcases List.mem_cons.1 h with rfl | h
        · have := splitDot_part l y (by rw [hy]; simp); simp; omega
        · have := splitDot_part l x (by rw [hy]; simp [h]); simp; omega
theorem isName_c [Gh] (l : Nm) (hl : l.length ≤ 2 ^ 30) {h : Heap} {Q : Value → Heap → Prop} (hk : ∀ h', Fr (fun _ => False) h h' → Q (.bool (isNameB l)) h') : CallT Tryd.prog fn_dns_IsName #[.string (bs l)] h Q := by
  apply dns_IsName_s
  unfold dns_IsName_v
  unfold isNameB at hk
  refine ifS0 (fun e => ?_) fun e => ?_
  · rw [decide_eq_true e, Bool.true_or] at hk; exact hk h (Fr.refl _ _)
  rw [decide_eq_false e, Bool.false_or] at hk
  refine split_c l hl fun p cap h1 f1 R _ => ⟨_, _, _, rfl, ?_⟩
  have hk := hk h1 f1
  rw [bs_size]
  refine ifD (fun e1 => ?_) fun e1 => ?_
  · rw [decide_eq_false (by omega)] at hk; exact hk
  rw [decide_eq_true (by omega), Bool.true_and] at hk
  refine ifD (fun e2 => ?_) fun e2 => ?_
  · rw [decide_eq_false (by omega)] at hk; exact hk
  rw [decide_eq_true (by omega), Bool.true_and] at hk
  have hpart := splitDot_part l
  generalize splitDot l = m at *
  refine LoopV.mk (fun s h' => ∃ i : Nat, s = (i : Int) ∧ i ≤ m.length ∧ h' = h1 ∧ (m.take i).all labelB = true) (fun s _ => m.length - s.toNat) ⟨0, rfl, by omega, rfl, by simp⟩ ?_
  rintro - h2 ⟨i, rfl, hi, hh, ha⟩
  subst hh
  unfold dns_IsName_l1
  refine ifD (fun e3 => ?_) fun e3 => ?_
  · have hlt : i < m.length := by omega
    refine R.idx strV_len (by omega) i rfl hlt fun ad c => ?_
    rw [Int.toNat_natCast]
    refine ldS_mk (c.at0 rfl) ?_
    have bad : labelB m[i] = false → Q (.bool false) h2 := fun hb => by rw [all_bad hlt hb] at hk; exact hk
    have good : labelB m[i] = true → (∃ k : Nat, wrap .i64 ((i : Int) + 1) = (k : Int) ∧ k ≤ m.length ∧ h2 = h2 ∧ (m.take k).all labelB = true) ∧ m.length - (wrap .i64 ((i : Int) + 1)).toNat < m.length - (i : Int).toNat := fun hb => by
      rw [wr (by omega) (by omega)]
      exact ⟨⟨i + 1, rfl, hlt, rfl, all_next hlt hb ha⟩, by omega⟩
    have hx := hpart _ (List.getElem_mem hlt)
    generalize m[i] = x at *
    refine ifS0 (fun e4 => bad (by subst e4; rfl)) fun e4 => ?_
    rw [bs_size]
    refine ifD (fun e5 => bad ?_) fun e5 => ?_
    · unfold labelB; rw [decide_eq_false (p := x.length ≤ 63) (by omega)]; simp
    refine LoopV.mk (fun s h' => ∃ k : Nat, s = (k : Int) ∧ k ≤ x.length ∧ h' = h2 ∧ (x.take k).all letterB = true) (fun s _ => x.length - s.toNat) ⟨0, rfl, by omega, rfl, by simp⟩ ?_
    rintro - h3 ⟨k, rfl, hkk, hh, hb⟩
    subst hh
    unfold dns_IsName_l2
    refine ifD (fun e6 => ?_) fun e6 => ?_
    · have hlk : k < x.length := by omega
      refine ixS x k rfl hlk ?_
      have hb' := byteI_le x[k]
      refine allowed_c _ hb'.1 hb'.2 ⟨_, rfl, ifN (fun e7 => bad ?_) fun e7 => ?_⟩
      · unfold labelB; rw [all_bad hlk e7]; simp
      · rw [wr (by omega) (by omega)]
        exact ⟨⟨k + 1, rfl, hlk, rfl, all_next hlk e7 hb⟩, by omega⟩
    · rw [List.take_of_length_le (by omega)] at hb
      exact good (by unfold labelB; rw [hb, decide_eq_true e4, decide_eq_true (by omega)]; rfl)
  · rw [List.take_of_length_le (by omega)] at ha
    rw [ha] at hk; exact hk
theorem el_str : ElemT Tryd.prog T_sl_string T_string Tryd.t9 (.string (⟨#[]⟩ : ByteArray)) := ⟨Tryd.underlying36, by kernel_rfl, by kernel_rfl, by kernel_rfl, by decide +kernel⟩
theorem appS [Gh] {h : Heap} {p : Option Addr} {cap : Nat} {L : List Nm} (R : Row 1 strV h p cap L) {e : Nm} {b : Addr} (ob : Own h b (strV e) T_string) (hl : L.length ≤ 2 ^ 29) {K : Value → Heap → Prop}
    (hk : ∀ p' cap' h', Row 1 strV h' p' cap' (L ++ [e]) → Fr (InA p) h h' → (∀ b, InA p' b → InA p b ∨ h.size ≤ b) → K (.slice p' (L ++ [e]).length cap') h') :
    bltV Tryd.prog .append #[T_sl_string, T_sl_string] T_sl_string #[false, false] #[.slice p L.length cap, .slice (some b) 1 1] h K :=
  R.app el_str Tryd.underlying36 (by intro k e; cases e) (by kernel_rfl) (by decide +kernel) strV_len (fun _ => rfl) ob 1 hl hk
def labelsL (l : Nm) : List Nm := if l = [] then [] else splitDot l
theorem labels_c [Gh] (l : Nm) (hl : l.length ≤ 2 ^ 28) {h : Heap} {Q : Value → Heap → Prop}
    (hk : ∀ p cap h', Fr (fun _ => False) h h' → Row 1 strV h' p cap (labelsL l) → (∀ b, InA p b → h.size ≤ b) → Q (.slice p (labelsL l).length cap) h') :
    CallT Tryd.prog fn_ref29_labels #[.string (bs l)] h Q := by
  apply ref29_labels_s
  unfold ref29_labels_v
  unfold labelsL at hk
  refine al_mk (vs := []) fun t6 h1 f1 e1 o1 => ?_
  have z1 := f1.size
  have R0 : Row 1 strV h1 (some t6) 0 [] := Row.of_own (L := []) strV_len o1
  have ia0 : ∀ b, InA (some t6) b → h.size ≤ b := fun b hb => by obtain ⟨ad, h1, rfl⟩ := hb; cases h1; omega
  refine ifS0 (fun e => ?_) fun e => ?_
  · rw [if_pos e] at hk; exact hk (some t6) 0 h1 f1 R0 ia0
  rw [if_neg e] at hk
  refine LoopV.mk (fun st h' => ∃ (i fr : Nat) (o : List Nm), st.2.2.2.2 = (i : Int) ∧ st.2.2.2.1 = (fr : Int) ∧ st.2.1 = o.length ∧ Fr (fun _ => False) h h' ∧ Row 1 strV h' st.1 st.2.2.1 o ∧ (∀ b, InA st.1 b → h.size ≤ b) ∧ o.length ≤ i ∧
      ((i ≤ l.length ∧ fr ≤ i ∧ o ++ splitDot (l.drop fr) = splitDot l ∧ ∀ b ∈ (l.drop fr).take (i - fr), b ≠ 46) ∨ (i = l.length + 1 ∧ o = splitDot l))) (fun st _ => l.length + 1 - st.2.2.2.2.toNat)
    ⟨0, 0, [], rfl, rfl, rfl, f1, R0, ia0, by simp, .inl ⟨by omega, by omega, by simp, by simp⟩⟩ ?_
  rintro ⟨a, n, c, fi, j⟩ h2 ⟨i, fr, o, hj, hfr, hn, f2, Ro, ha, hol, hcase⟩
  dsimp only at hj hfr hn Ro ha
  subst hj hfr hn
  unfold ref29_labels_l1
  dsimp only
  have z2 := f2.size
  rw [bs_size]
  have b2 : ∀ {Kn : (Option Addr) × Nat × Nat × Int × Int → Heap → Prop}, i ≤ l.length → fr ≤ i → (∀ p' c' h', Fr (fun _ => False) h h' → Row 1 strV h' p' c' (o ++ [(l.drop fr).take (i - fr)]) → (∀ b, InA p' b → h.size ≤ b) → Kn (p', (o ++ [(l.drop fr).take (i - fr)]).length, c', ((i + 1 : Nat) : Int), ((i + 1 : Nat) : Int)) h') → ref29_labels_b2 (bs l) a o.length c (fr : Int) (i : Int) Q Kn h2 := fun h1 h2' hK => by
    unfold ref29_labels_b2
    refine slS l fr i rfl rfl h2' h1 ?_
    refine al_mk (vs := strV ((l.drop fr).take (i - fr))) fun b h3 f3 e3 ob => ?_
    have z3 := f3.size
    refine appS (Ro.fr0 f3) ob (by omega) fun p' c' h4 R4 f4 hn4 => ⟨_, _, _, rfl, ?_⟩
    rw [wr (by omega) (by omega)]
    refine hK p' c' h4 ((f2.trans f3).tr f4 fun b hb hi => by have := ha b hi; omega) R4 fun b hb => ?_
    rcases hn4 b hb with h | h
    · exact ha b h
    · omega
  refine ifD (fun e2 => ?_) fun e2 => ?_
  · obtain ⟨hil, hfi, hspl, hnd⟩ : i ≤ l.length ∧ fr ≤ i ∧ o ++ splitDot (l.drop fr) = splitDot l ∧ ∀ b ∈ (l.drop fr).take (i - fr), b ≠ 46 := by
      rcases hcase with h | h
      · exact h
      · exact absurd e2 (by omega)
    refine ifE (fun e3 => ?_) fun e3 => ?_
    · have hi' : i = l.length := by omega
      refine b2 hil hfi fun p' c' h' f' R' hp' => ?_
      refine ⟨⟨i + 1, i + 1, _, rfl, rfl, rfl, f', R', hp', by simp; omega, .inr ⟨by omega, ?_⟩⟩, by (try dsimp only); omega⟩
      have et : (l.drop fr).take (i - fr) = l.drop fr := List.take_of_length_le (by simp; omega)
      rw [et] at hnd ⊢
      rw [← hspl, splitDot_nodot _ hnd]
    · have hlt : i < l.length := by omega
      have hdr : l.drop fr = (l.drop fr).take (i - fr) ++ l[i] :: l.drop (i + 1) := by
        conv => lhs; rw [← List.take_append_drop (i - fr) (l.drop fr)]
        rw [List.drop_drop, show fr + (i - fr) = i by omega, List.drop_eq_getElem_cons hlt]
      refine ixS l i rfl hlt (ifE (fun e4 => ?_) fun e4 => ?_)
      · have e46 : l[i] = 46 := by
          apply UInt8.toNat_inj.1
          unfold byteI at e4
          show _ = 46
          omega
        rw [e46] at hdr
        refine b2 hil hfi fun p' c' h' f' R' hp' => ?_
        refine ⟨⟨i + 1, i + 1, _, rfl, rfl, rfl, f', R', hp', by simp; omega, .inl ⟨hlt, by omega, ?_, by simp⟩⟩, by (try dsimp only); omega⟩
        rw [← hspl, hdr, splitDot_cut _ _ hnd]
        rw [← hdr]; simp
      · have e46 : l[i] ≠ 46 := fun h => e4 (by rw [h]; rfl)
        rw [wr (by omega) (by omega)]
        refine ⟨⟨i + 1, fr, o, rfl, rfl, rfl, f2, Ro, ha, by omega, .inl ⟨hlt, by omega, hspl, ?_⟩⟩, by (try dsimp only); omega⟩
        have ht : (l.drop fr).take (i + 1 - fr) = (l.drop fr).take (i - fr) ++ [l[i]] := by
          have hlt2 : i - fr < (l.drop fr).length := by simp; omega
          rw [show i + 1 - fr = (i - fr) + 1 by omega, ← List.take_append_getElem hlt2]
          congr 2
          rw [List.getElem_drop]; congr 1; omega
        rw [ht]
        intro b hb
        rcases List.mem_append.1 hb with h | h
        · exact hnd b h
        · rw [List.mem_singleton] at h; rw [h]; exact e46
  · rcases hcase with h | ⟨_, h⟩
    · exact absurd h.1 (by omega)
    · subst h; exact hk a c h2 f2 Ro ha
theorem isNameB_eq (l : Nm) : isNameB l = (decide (l.length ≤ 253) && decide ((labelsL l).length ≤ 24) && (labelsL l).all labelB) := by
  unfold isNameB labelsL
  by_cases h : l = []
  · subst h; rfl
  · rw [decide_eq_false h, if_neg h]; rfl
theorem rIsName_c [Gh] (l : Nm) {h : Heap} {Q : Value → Heap → Prop} (hk : ∀ h', Fr (fun _ => False) h h' → Q (.bool (isNameB l)) h') : CallT Tryd.prog fn_ref29_IsName #[.string (bs l)] h Q := by
  apply ref29_IsName_s
  unfold ref29_IsName_v
  rw [isNameB_eq] at hk
  rw [bs_size]
  refine ifD (fun e1 => ?_) fun e1 => ?_
  · rw [decide_eq_false (by omega)] at hk; exact hk h (Fr.refl _ _)
  rw [decide_eq_true (by omega), Bool.true_and] at hk
  refine labels_c l (by omega) fun p cap h1 f1 R _ => ⟨_, _, _, rfl, ?_⟩
  have hk := hk h1 f1
  refine ifD (fun e2 => ?_) fun e2 => ?_
  · rw [decide_eq_false (by omega)] at hk; exact hk
  rw [decide_eq_true (by omega), Bool.true_and] at hk
  have hpart : ∀ x ∈ labelsL l, x.length ≤ l.length := fun x hx => by
    unfold labelsL at hx
    split at hx
    · cases hx
    · exact splitDot_part l x hx
  generalize labelsL l = m at *
  refine LoopV.mk (fun s h' => ∃ i : Nat, s = (i : Int) ∧ i ≤ m.length ∧ h' = h1 ∧ (m.take i).all labelB = true) (fun s _ => m.length - s.toNat) ⟨0, rfl, by omega, rfl, by simp⟩ ?_
  rintro - h2 ⟨i, rfl, hi, hh, ha⟩
  subst hh
  unfold ref29_IsName_l1
  refine ifD (fun e3 => ?_) fun e3 => ?_
  · have hlt : i < m.length := by omega
    obtain ⟨ad, hp, c⟩ := R.cellsAt strV_len (by omega) i hlt
    have ix : ∀ {K : Addr → Prop}, K ad → idxA (i : Int) m.length (nn p fun a => K a) := fun hK => idxA_mk i rfl hlt (by rw [hp]; exact nn_mk hK)
    have bad : labelB m[i] = false → Q (.bool false) h2 := fun hb => by rw [all_bad hlt hb] at hk; exact hk
    have good : labelB m[i] = true → (∃ k : Nat, wrap .i64 ((i : Int) + 1) = (k : Int) ∧ k ≤ m.length ∧ h2 = h2 ∧ (m.take k).all labelB = true) ∧ m.length - (wrap .i64 ((i : Int) + 1)).toNat < m.length - (i : Int).toNat := fun hb => by
      rw [wr (by omega) (by omega)]
      exact ⟨⟨i + 1, rfl, hlt, rfl, all_next hlt hb ha⟩, by omega⟩
    have hx := hpart _ (List.getElem_mem hlt)
    generalize m[i] = x at *
    rw [Int.toNat_natCast]
    refine ix (ldS_mk (c.at0 rfl) (ifS0 (fun e4 => bad (by subst e4; rfl)) fun e4 => ?_))
    refine ix (ldS_mk (c.at0 rfl) ?_)
    rw [bs_size]
    refine ifD (fun e5 => bad ?_) fun e5 => ?_
    · unfold labelB; rw [decide_eq_false (p := x.length ≤ 63) (by omega)]; simp
    refine LoopV.mk (fun s h' => ∃ k : Nat, s = (k : Int) ∧ k ≤ x.length ∧ h' = h2 ∧ (x.take k).all letterB = true) (fun s _ => x.length - s.toNat) ⟨0, rfl, by omega, rfl, by simp⟩ ?_
    rintro - h3 ⟨k, rfl, hkk, hh, hb⟩
    subst hh
    unfold ref29_IsName_l2
    rw [Int.toNat_natCast]
    refine ix (ldS_mk (c.at0 rfl) ?_)
    rw [bs_size]
    refine ifD (fun e6 => ?_) fun e6 => ?_
    · have hlk : k < x.length := by omega
      refine ix (ldS_mk (c.at0 rfl) (ixS x k rfl hlk ?_))
      refine letter_c _ ⟨_, rfl, ifN (fun e7 => bad ?_) fun e7 => ?_⟩
      · unfold labelB; rw [all_bad hlk e7]; simp
      · rw [wr (by omega) (by omega)]
        exact ⟨⟨k + 1, rfl, hlk, rfl, all_next hlk e7 hb⟩, by omega⟩
    · rw [List.take_of_length_le (by omega)] at hb
      exact good (by unfold labelB; rw [hb, decide_eq_true e4, decide_eq_true (by omega)]; rfl)
  · rw [List.take_of_length_le (by omega)] at ha
    rw [ha] at hk; exact hk
end Go.Proofs.YtmjbcnbjedipdaaDoor
/-!
  Bytes; numbers of bytes; small letters.
-/
namespace Go.Proofs.YtmjbcnbjedipdaaDoor
set_option linter.unusedSimpArgs false
set_option linter.unusedVariables false
set_option maxRecDepth 20000
open Go
open Go.IntKind (wrap)
/-! ### Rows of bytes -/
def bV (b : UInt8) : List Value := [.int .u8 b.toNat]
theorem bV_len (b : UInt8) : (bV b).length = 1 := rfl
theorem bV_flat (l : Nm) : l.flatMap bV = bytesV l := by
  induction l with
  | nil => rfl
  | cons a l ih => rw [List.flatMap_cons, ih]; rfl
theorem el_u8 : ElemT Tryd.prog T_sl_uint8 T_uint8 Tryd.t5 (.int .u8 0) := ⟨Tryd.underlying73, by kernel_rfl, by kernel_rfl, by kernel_rfl, by decide⟩
theorem conv8 [Gh] {h : Heap} {p : Option Addr} {c : Nat} {l : Nm} (R : Row 1 bV h p c l) {K : Value → Heap → Prop} (hk : K (.string (bs l)) h) : convV Tryd.prog T_sl_uint8 T_string (.slice p l.length c) h K := by
  have o := R.own
  rw [bV_flat] at o
  exact conv_bytes Tryd.underlying73 Tryd.underlying9 Tryd.underlying5 (l := l) rfl (fun ad hd => by subst hd; exact o.cells) (fun hd => by subst hd; have := o.1; simpa [bytesV] using this) hk
theorem convS [Gh] (l : Nm) {h : Heap} {K : Value → Heap → Prop} (hk : ∀ p c h', Fr (fun _ => False) h h' → (∀ b, InA p b → h.size ≤ b) → Row 1 bV h' p c l → K (.slice p l.length c) h') : convV Tryd.prog T_string T_sl_uint8 (.string (bs l)) h K :=
  convSB_mk Tryd.underlying9 Tryd.underlying73 Tryd.underlying5 l fun a c h' f hn o hl => hk a c h' f hn ⟨by rw [bV_flat]; exact o, hl⟩
theorem app1 [Gh] {h : Heap} {p : Option Addr} {cap : Nat} {L : Nm} (R : Row 1 bV h p cap L) {e : UInt8} {b : Addr} (ob : Own h b (bV e) T_uint8) (hl : L.length ≤ 2 ^ 29) {K : Value → Heap → Prop}
    (hk : ∀ p' cap' h', Row 1 bV h' p' cap' (L ++ [e]) → Fr (InA p) h h' → (∀ b, InA p' b → InA p b ∨ h.size ≤ b) → K (.slice p' (L ++ [e]).length cap') h') :
    bltV Tryd.prog .append #[T_sl_uint8, T_sl_uint8] T_sl_uint8 #[false, false] #[.slice p L.length cap, .slice (some b) 1 1] h K :=
  R.app el_u8 Tryd.underlying73 (by intro k e; cases e) (by kernel_rfl) (by decide +kernel) bV_len (fun _ => rfl) ob 1 hl hk
theorem appB [Gh] {h : Heap} {p : Option Addr} {cap : Nat} {L : Nm} (R : Row 1 bV h p cap L) (t : Nm) (hl : L.length + t.length ≤ 2 ^ 30) {K : Value → Heap → Prop}
    (hk : ∀ p' cap' h', Row 1 bV h' p' cap' (L ++ t) → Fr (InA p) h h' → (∀ b, InA p' b → InA p b ∨ h.size ≤ b) → K (.slice p' (L ++ t).length cap') h') :
    bltV Tryd.prog .append #[T_sl_uint8, T_string] T_sl_uint8 #[false, false] #[.slice p L.length cap, .string (bs t)] h K := by
  have s : Src h 1 (.string (bs t)) t.length (t.flatMap bV) := by
    have := Src.str (h := h) (sz := 1) (bs t) rfl
    rw [bs_data, bs_size] at this
    rw [bV_flat]; exact this
  exact R.appL el_u8 Tryd.underlying9 (by intro k e; cases e) (by kernel_rfl) (by decide +kernel) bV_len (fun _ => rfl) s hl hk
/-! ### Small letters -/
theorem lowB_if {b : UInt8} : byteI (lowB b) = if 65 ≤ byteI b ∧ byteI b ≤ 90 then byteI b + 32 else byteI b := byteI_low b
theorem lowL_len (l : Nm) : (lowL l).length = l.length := by unfold lowL; simp
theorem rlower_c [Gh] (l : Nm) (hl : l.length ≤ 2 ^ 28) {h : Heap} {Q : Value → Heap → Prop} (hk : ∀ h', Fr (fun _ => False) h h' → Q (.string (bs (lowL l))) h') : CallT Tryd.prog fn_ref26_lower #[.string (bs l)] h Q := by
  apply ref26_lower_s
  unfold ref26_lower_v
  refine al_mk (vs := []) fun t6 h1 f1 e1 o1 => ?_
  have z1 := f1.size
  have R0 : Row 1 bV h1 (some t6) 0 [] := Row.of_own (L := []) bV_len o1
  refine LoopV.mk (fun st h' => ∃ (i : Nat), st.2.2.2 = (i : Int) ∧ st.2.1 = (lowL (l.take i)).length ∧ i ≤ l.length ∧ Fr (fun _ => False) h h' ∧ Row 1 bV h' st.1 st.2.2.1 (lowL (l.take i)) ∧ (∀ b, InA st.1 b → h.size ≤ b)) (fun st _ => l.length - st.2.2.2.toNat)
    ⟨0, rfl, rfl, by omega, f1, R0, fun b hb => by obtain ⟨ad, h1, rfl⟩ := hb; cases h1; omega⟩ ?_
  rintro ⟨a, n, c, j⟩ h2 ⟨i, hj, hn, hi, f2, Ro, ha⟩
  dsimp only at hj hn Ro ha
  subst hj hn
  unfold ref26_lower_l1
  dsimp only
  rw [bs_size]
  have z2 := f2.size
  refine ifD (fun e2 => ?_) fun e2 => ?_
  · have hlt : i < l.length := by omega
    have hlow : lowL (l.take (i + 1)) = lowL (l.take i) ++ [lowB l[i]] := by
      rw [show l.take (i + 1) = l.take i ++ [l[i]] by rw [List.take_append_getElem]]; unfold lowL; rw [List.map_append]; rfl
    have b2 : ∀ {c' : Int} {Kn : (Option Addr) × Nat × Nat × Int → Heap → Prop}, c' = byteI (lowB l[i]) → (∀ p' cap' h', Fr (fun _ => False) h h' → Row 1 bV h' p' cap' (lowL (l.take (i + 1))) → (∀ b, InA p' b → h.size ≤ b) → Kn (p', (lowL (l.take (i + 1))).length, cap', ((i + 1 : Nat) : Int)) h') → ref26_lower_b2 (bs l) a (lowL (l.take i)).length c (i : Int) c' Q Kn h2 := fun hc hK => by
      subst hc
      unfold ref26_lower_b2
      refine al_mk (vs := bV (lowB l[i])) fun b h3 f3 e3 ob => ?_
      have z3 := f3.size
      refine app1 (Ro.fr0 f3) ob (by rw [lowL_len, List.length_take]; omega) fun p' c' h4 R4 f4 hn4 => ⟨_, _, _, rfl, ?_⟩
      rw [← hlow] at R4 ⊢
      rw [wr (by omega) (by omega)]
      refine hK p' c' h4 ((f2.trans f3).tr f4 fun b hb hi => by have := ha b hi; omega) R4 fun b hb => ?_
      rcases hn4 b hb with h | h
      · exact ha b h
      · omega
    have hb := byteI_le l[i]
    refine ixS l i rfl hlt ?_
    have go : ∀ p' cap' h', Fr (fun _ => False) h h' → Row 1 bV h' p' cap' (lowL (l.take (i + 1))) → (∀ b, InA p' b → h.size ≤ b) → (∃ (k : Nat), ((i + 1 : Nat) : Int) = (k : Int) ∧ (lowL (l.take (i + 1))).length = (lowL (l.take k)).length ∧ k ≤ l.length ∧ Fr (fun _ => False) h h' ∧ Row 1 bV h' p' cap' (lowL (l.take k)) ∧ (∀ b, InA p' b → h.size ≤ b)) ∧ l.length - ((i + 1 : Nat) : Int).toNat < l.length - (i : Int).toNat := fun p' cap' h' f' R' hp' => ⟨⟨i + 1, rfl, rfl, hlt, f', R', hp'⟩, by omega⟩
    refine ifD (fun e3 => ifD (fun e4 => ?_) fun e4 => ?_) fun e3 => ?_
    · exact b2 (by rw [lowB_if, if_pos ⟨e3, e4⟩, wr8 (by omega) (by omega)]) go
    · exact b2 (by rw [lowB_if, if_neg (by omega)]) go
    · exact b2 (by rw [lowB_if, if_neg (by omega)]) go
  · rw [List.take_of_length_le (by omega)] at Ro ⊢
    exact conv8 Ro ⟨_, rfl, hk h2 f2⟩
theorem rsmall_c [Gh] (l : Nm) (hl : l.length ≤ 2 ^ 28) {h : Heap} {Q : Value → Heap → Prop} (hk : ∀ h', Fr (fun _ => False) h h' → Q (.string (bs (lowL l))) h') : CallT Tryd.prog fn_ref29_small #[.string (bs l)] h Q := by
  apply ref29_small_s
  unfold ref29_small_v
  apply ref26_Apply_s
  unfold ref26_Apply_v
  rw [if_pos (by decide)]
  exact rlower_c l hl fun h' f => ⟨_, rfl, _, rfl, hk h' f⟩
theorem lowSet (l : Nm) (i : Nat) (hi : i < l.length) : (lowL (l.take i) ++ l.drop i).set i (lowB l[i]) = lowL (l.take (i + 1)) ++ l.drop (i + 1) := by
  have hlow : lowL (l.take (i + 1)) = lowL (l.take i) ++ [lowB l[i]] := by
    rw [show l.take (i + 1) = l.take i ++ [l[i]] by rw [List.take_append_getElem]]; unfold lowL; rw [List.map_append]; rfl
  have hlen : (lowL (l.take i)).length = i := by rw [lowL_len, List.length_take]; omega
  rw [List.set_append_right _ _ (by omega), hlen, Nat.sub_self, List.drop_eq_getElem_cons hi, List.set_cons_zero, hlow]
  simp
theorem lowAt (l : Nm) (i : Nat) (hi : i < l.length) (h : i < (lowL (l.take i) ++ l.drop i).length) : (lowL (l.take i) ++ l.drop i)[i] = l[i] := by
  have hlen : (lowL (l.take i)).length = i := by rw [lowL_len, List.length_take]; omega
  rw [List.getElem_append_right (by omega), List.getElem_drop]
  congr 1; omega
theorem lowTot (l : Nm) (i : Nat) (hi : i ≤ l.length) : (lowL (l.take i) ++ l.drop i).length = l.length := by rw [List.length_append, lowL_len, List.length_take, List.length_drop]; omega
theorem Row.setB [Gh] {h : Heap} {p : Option Addr} {cap : Nat} {L : Nm} (R : Row 1 bV h p cap L) {n : Int} {len : Nat} (i : Nat) (hn : n = i) (hl : len = L.length) (hi : i < L.length) (x : UInt8) {c : Int} (hc : c = byteI x) {K : Heap → Prop} (hk : ∀ h', Fr (InA p) h h' → Row 1 bV h' p cap (L.set i x) → K h') :
    idxA n len (nn p fun a => st1 h (a.add (n.toNat * 1)) (.int .u8 c) K) := by
  subst hc hl
  refine idxA_mk i hn hi ?_
  obtain ⟨ad, hp, _⟩ := R.cellsAt bV_len (by omega) i hi
  subst hp
  refine nn_mk ?_
  rw [hn, Int.toNat_natCast]
  have := R.set1 bV_len i hi rfl (j := 0) (by omega) (v := .int .u8 (byteI x)) rfl (e' := x) rfl hk
  rw [add_add, Nat.add_zero] at this
  exact this
theorem lower_c [Gh] (l : Nm) (hl : l.length ≤ 2 ^ 28) {h : Heap} {Q : Value → Heap → Prop} (hk : ∀ h', Fr (fun _ => False) h h' → Q (.string (bs (lowL l))) h') : CallT Tryd.prog fn_dns_lower #[.string (bs l)] h Q := by
  apply dns_lower_s
  unfold dns_lower_v
  refine convS l fun p c h1 f1 hp R => ⟨_, _, _, rfl, ?_⟩
  have z1 := f1.size
  refine LoopV.mk (fun st h' => ∃ (i : Nat), st = (i : Int) ∧ i ≤ l.length ∧ Fr (fun _ => False) h h' ∧ Row 1 bV h' p c (lowL (l.take i) ++ l.drop i)) (fun st _ => l.length - st.toNat) ⟨0, rfl, by omega, f1, by simpa [lowL] using R⟩ ?_
  rintro - h2 ⟨i, rfl, hi, f2, R2⟩
  unfold dns_lower_l1
  refine ifD (fun e => ?_) fun e => ?_
  · have hlt : i < l.length := by omega
    have ht := lowTot l i hi
    have hx := byteI_le l[i]
    have := R2.idx (n := (i : Int)) bV_len (by omega) i rfl (by omega) (K := fun a => ldI h2 (a.add ((i : Int).toNat * 1)) .u8 fun t14 => CallT Tryd.prog fn_dns_small #[.int .u8 t14] h2 fun v h2 => ∃ t18 : Int, v = .int .u8 t18 ∧ idxA (i : Int) l.length (nn p fun t19 => st1 h2 (Addr.add t19 (((i : Int)).toNat * 1)) (.int .u8 t18) fun h3 => (∃ (k : Nat), wrap .i64 ((i : Int) + 1) = (k : Int) ∧ k ≤ l.length ∧ Fr (fun _ => False) h h3 ∧ Row 1 bV h3 p c (lowL (l.take k) ++ l.drop k)) ∧ l.length - (wrap .i64 ((i : Int) + 1)).toNat < l.length - (i : Int).toNat)) fun ad ce => by
      rw [Int.toNat_natCast]
      rw [lowAt l i hlt] at ce
      refine ldI_mk (ce.at0 rfl) (small_c _ hx.1 hx.2 ⟨_, rfl, ?_⟩)
      refine R2.setB i rfl ht.symm (by omega) (lowB l[i]) (byteI_low _).symm fun h3 f3 R3 => ?_
      rw [lowSet l i hlt] at R3
      rw [wr (by omega) (by omega)]
      exact ⟨⟨i + 1, rfl, hlt, f2.tr f3 fun b hb hi => by have := hp b hi; omega, R3⟩, by omega⟩
    rw [ht] at this
    exact this
  · have hil : i = l.length := by omega
    subst hil
    rw [List.take_length, List.drop_length, List.append_nil] at R2
    have := conv8 R2 (K := fun v h4 => ∃ t22 : ByteArray, v = .string t22 ∧ Q (.string t22) h4) ⟨_, rfl, hk h2 f2⟩
    rw [lowL_len] at this; exact this
theorem lawLower_c [Gh] (l : Nm) (hl : l.length ≤ 2 ^ 28) {h : Heap} {Q : Value → Heap → Prop} (hk : ∀ h', Fr (fun _ => False) h h' → Q (.string (bs (lowL l))) h') : CallT Tryd.prog fn_law29_lower #[.string (bs l)] h Q := by
  apply law29_lower_s
  unfold law29_lower_v
  refine convS l fun p c h1 f1 hp R => ⟨_, _, _, rfl, ?_⟩
  have z1 := f1.size
  refine LoopV.mk (fun st h' => ∃ (i : Nat), st = (i : Int) ∧ i ≤ l.length ∧ Fr (fun _ => False) h h' ∧ Row 1 bV h' p c (lowL (l.take i) ++ l.drop i)) (fun st _ => l.length - st.toNat) ⟨0, rfl, by omega, f1, by simpa [lowL] using R⟩ ?_
  rintro - h2 ⟨i, rfl, hi, f2, R2⟩
  unfold law29_lower_l1
  refine ifD (fun e => ?_) fun e => ?_
  · have hlt : i < l.length := by omega
    have ht := lowTot l i hi
    have hx := byteI_le l[i]
    obtain ⟨ad, hp2, ce⟩ := R2.cellsAt bV_len (by omega) i (by omega)
    rw [lowAt l i hlt] at ce
    have ix : ∀ {K : Addr → Prop}, K ad → idxA (i : Int) l.length (nn p fun a => K a) := fun hK => idxA_mk i rfl hlt (by rw [hp2]; exact nn_mk hK)
    have go : ∀ h3, Fr (fun _ => False) h h3 → Row 1 bV h3 p c (lowL (l.take (i + 1)) ++ l.drop (i + 1)) → (∃ (k : Nat), wrap .i64 ((i : Int) + 1) = (k : Int) ∧ k ≤ l.length ∧ Fr (fun _ => False) h h3 ∧ Row 1 bV h3 p c (lowL (l.take k) ++ l.drop k)) ∧ l.length - (wrap .i64 ((i : Int) + 1)).toNat < l.length - (i : Int).toNat := fun h3 f3 R3 => by
      rw [wr (by omega) (by omega)]
      exact ⟨⟨i + 1, rfl, hlt, f3, R3⟩, by omega⟩
    have hbe : byteI l[i] = (l[i].toNat : Int) := rfl
    have same : ¬ (65 ≤ byteI l[i] ∧ byteI l[i] ≤ 90) → Row 1 bV h2 p c (lowL (l.take (i + 1)) ++ l.drop (i + 1)) := fun hn => by
      rw [← lowSet l i hlt]
      have e : lowB l[i] = l[i] := by
        have := lowB_if (b := l[i])
        rw [if_neg hn] at this
        apply UInt8.toNat_inj.1
        unfold byteI at this; omega
      rw [e]
      have e2 : (lowL (l.take i) ++ l.drop i).set i l[i] = lowL (l.take i) ++ l.drop i := by
        conv => lhs; rw [← lowAt l i hlt (by omega)]
        exact List.set_getElem_self _
      rw [e2]; exact R2
    refine ix ?_
    rw [Int.toNat_natCast]
    refine ldI_mk (ce.at0 rfl) (ifD (fun e1 => ?_) fun e1 => ?_)
    · refine ix (ldI_mk (ce.at0 rfl) (ifD (fun e2 => ?_) fun e2 => ?_))
      · refine ix (ldI_mk (ce.at0 rfl) ?_)
        have := R2.setB (n := (i : Int)) (len := l.length) i rfl ht.symm (by omega) (lowB l[i]) (c := wrap .u8 (byteI l[i] + 32)) (by rw [lowB_if, if_pos ⟨e1, e2⟩, wr8 (by omega) (by omega)]) (K := fun h2 => (∃ (k : Nat), wrap .i64 ((i : Int) + 1) = (k : Int) ∧ k ≤ l.length ∧ Fr (fun _ => False) h h2 ∧ Row 1 bV h2 p c (lowL (l.take k) ++ l.drop k)) ∧ l.length - (wrap .i64 ((i : Int) + 1)).toNat < l.length - (i : Int).toNat) fun h3 f3 R3 => by
          rw [lowSet l i hlt] at R3
          exact go h3 (f2.tr f3 fun b hb hi => by have := hp b hi; omega) R3
        rw [Int.toNat_natCast] at this
        exact this
      · exact go h2 f2 (same (by omega))
    · exact go h2 f2 (same (by omega))
  · have hil : i = l.length := by omega
    subst hil
    rw [List.take_length, List.drop_length, List.append_nil] at R2
    have := conv8 R2 (K := fun v h4 => ∃ t22 : ByteArray, v = .string t22 ∧ Q (.string t22) h4) ⟨_, rfl, hk h2 f2⟩
    rw [lowL_len] at this; exact this
end Go.Proofs.YtmjbcnbjedipdaaDoor
/-!
  Numbers of bytes: Put and Get, the reader's bytes and numbers.
-/
namespace Go.Proofs.YtmjbcnbjedipdaaDoor
set_option linter.unusedSimpArgs false
set_option linter.unusedVariables false
set_option maxRecDepth 20000
open Go
open Go.IntKind (wrap)
def beB : Nat → Nat → Nm
  | 0, _ => []
  | k + 1, n => beB k (n / 256) ++ [UInt8.ofNat (n % 256)]
def valF (n : Nat) (l : Nm) : Nat := l.foldl (fun n b => n * 256 + b.toNat) n
def valB (l : Nm) : Nat := valF 0 l
theorem valF_append (n : Nat) (l m : Nm) : valF n (l ++ m) = valF (valF n l) m := by unfold valF; rw [List.foldl_append]
theorem beB_len : ∀ k n, (beB k n).length = k
  | 0, _ => rfl
  | k + 1, n => by unfold beB; rw [List.length_append, beB_len k]; rfl
theorem valB_be : ∀ k n, valB (beB k n) = n % 256 ^ k
  | 0, n => by show 0 = n % 1; omega
  | k + 1, n => by
    unfold beB valB
    rw [valF_append]
    have := valB_be k (n / 256)
    unfold valB at this
    rw [this]
    show n / 256 % 256 ^ k * 256 + (UInt8.ofNat (n % 256)).toNat = _
    have e : (UInt8.ofNat (n % 256)).toNat = n % 256 := by simp
    rw [e, Nat.pow_succ, Nat.mul_comm (256 ^ k) 256, Nat.mod_mul]
    omega
theorem beB_get : ∀ (k n j : Nat), j < k → (beB k n)[j]? = some (UInt8.ofNat (n / 256 ^ (k - 1 - j) % 256))
  | 0, _, _, h => absurd h (Nat.not_lt_zero _)
  | k + 1, n, j, h => by
    unfold beB
    by_cases hj : j < k
    · rw [List.getElem?_append_left (by rw [beB_len]; exact hj), beB_get k (n / 256) j hj, Nat.div_div_eq_div_mul, show k + 1 - 1 - j = (k - 1 - j) + 1 by omega, Nat.pow_succ, Nat.mul_comm 256]
    · have : j = k := by omega
      subst this
      rw [List.getElem?_append_right (by rw [beB_len]; exact Nat.le_refl _), beB_len, Nat.sub_self, show j + 1 - 1 - j = 0 by omega]; simp
theorem rep_flat : ∀ n, (List.replicate n (Value.int .u8 0).cells.toList).flatten = (List.replicate n (0 : UInt8)).flatMap bV
  | 0 => rfl
  | n + 1 => by rw [List.replicate_succ, List.flatten_cons, rep_flat n, List.replicate_succ, List.flatMap_cons]; rfl
theorem fdiv_pow (n i : Nat) (hi : i ≤ 7) : Int.fdiv (n : Int) (2 ^ (min (Int.toNat (8 * (i : Int))) (IntKind.bits .i64))) = ((n / 256 ^ i : Nat) : Int) := by
  have e : min (Int.toNat (8 * (i : Int))) (IntKind.bits .i64) = 8 * i := by
    have : IntKind.bits .i64 = 64 := rfl
    omega
  have e2 : (2 : Int) ^ (8 * i) = ((256 ^ i : Nat) : Int) := by
    have : (256 : Nat) ^ i = 2 ^ (8 * i) := by rw [Nat.pow_mul]
    rw [this]; simp
  rw [e, e2, Int.fdiv_eq_ediv_of_nonneg _ (Int.natCast_nonneg _)]; rfl
theorem valid_c [Gh] {s : Nat} (h1 : 1 ≤ s) (h7 : s ≤ 7) {h : Heap} {Q : Value → Heap → Prop} (hk : Q (.bool true) h) : CallT Tryd.prog fn_field_valid #[.int .i64 s] h Q := by
  apply field_valid_s
  unfold field_valid_v
  refine ifD (fun _ => ?_) fun e => absurd e (by omega)
  rw [decide_eq_true (by omega)]; exact hk
theorem put_c [Gh] (n k : Nat) (h1 : 1 ≤ k) (h7 : k ≤ 7) (hn : n < 256 ^ k) {h : Heap} {Q : Value → Heap → Prop} (hk : ∀ h', Fr (fun _ => False) h h' → Q (.string (bs (beB k n))) h') : CallT Tryd.prog fn_field_Put #[.int .i64 n, .int .i64 k] h Q := by
  apply field_Put_s
  unfold field_Put_v
  refine valid_c h1 h7 ⟨_, rfl, ?_⟩
  rw [if_neg (by decide)]
  refine ifD (fun e => absurd e (by omega)) fun _ => ?_
  have e8 : wrap .i64 (8 * (k : Int)) = 8 * (k : Int) := wr (by omega) (by omega)
  rw [e8, fdiv_pow n k h7, Nat.div_eq_of_lt hn]
  refine ⟨by omega, ?_⟩
  rw [if_neg (by decide)]
  refine mkSl_mk el_u8 k rfl (by
    have : (Tryd.t5).bytes = 1 := by kernel_rfl
    rw [this]; omega) fun a h1' f1 e1 o1 => ⟨_, _, _, rfl, ?_⟩
  rw [rep_flat] at o1
  have z1 := f1.size
  have R1 := Row.of_own bV_len o1
  rw [List.length_replicate] at R1
  refine LoopV.mk (fun st h' => ∃ (i : Nat), st = (i : Int) ∧ i ≤ k ∧ Fr (fun _ => False) h h' ∧ Row 1 bV h' (some a) k (List.replicate (k - i) 0 ++ (beB k n).drop (k - i))) (fun st _ => k - st.toNat)
    ⟨0, rfl, by omega, f1, by rw [Nat.sub_zero, List.drop_eq_nil_of_le (by rw [beB_len]; exact Nat.le_refl _), List.append_nil]; exact R1⟩ ?_
  rintro - h2 ⟨i, rfl, hi, f2, R2⟩
  unfold field_Put_l1
  have hlen : (List.replicate (k - i) (0 : UInt8) ++ (beB k n).drop (k - i)).length = k := by rw [List.length_append, List.length_replicate, List.length_drop, beB_len]; omega
  refine ifD (fun e => ?_) fun e => ?_
  · have hlt : i < k := by omega
    rw [wr (x := 8 * (i : Int)) (by omega) (by omega), fdiv_pow n i (by omega)]
    refine ⟨by omega, ?_⟩
    obtain ⟨m, hm⟩ : ∃ m, k - i = m + 1 := ⟨k - i - 1, by omega⟩
    have ei : wrap .i64 (wrap .i64 ((k : Int) - 1) - (i : Int)) = (m : Int) := by rw [wr (x := (k : Int) - 1) (by omega) (by omega), wr (by omega) (by omega)]; omega
    have hb : wrap .u8 ((n / 256 ^ i : Nat) : Int) = byteI (UInt8.ofNat (n / 256 ^ i % 256)) := by
      unfold byteI
      have : (UInt8.ofNat (n / 256 ^ i % 256)).toNat = n / 256 ^ i % 256 := by simp
      rw [this]
      unfold IntKind.wrap IntKind.bits IntKind.signed
      simp only [Bool.false_and, ge_iff_le]
      rw [if_neg (by simp)]
      omega
    rw [ei, hb]
    rw [hm] at R2 hlen
    refine R2.setB m rfl hlen.symm (by rw [hlen]; omega) (UInt8.ofNat (n / 256 ^ i % 256)) rfl fun h3 f3 R3 => ?_
    have hs : (List.replicate (m + 1) (0 : UInt8) ++ (beB k n).drop (m + 1)).set m (UInt8.ofNat (n / 256 ^ i % 256)) = List.replicate m 0 ++ (beB k n).drop m := by
      have hg := beB_get k n m (by omega)
      rw [show k - 1 - m = i by omega] at hg
      obtain ⟨hlt2, hg2⟩ := List.getElem?_eq_some_iff.1 hg
      rw [List.drop_eq_getElem_cons hlt2, hg2, List.replicate_succ', List.append_assoc, List.set_append_right _ _ (by simp), List.length_replicate, Nat.sub_self]
      rfl
    rw [hs] at R3
    rw [wr (by omega) (by omega)]
    refine ⟨⟨i + 1, rfl, hlt, f2.tr f3 fun b hb hi => by obtain ⟨ad, h1, rfl⟩ := hi; cases h1; omega, ?_⟩, by omega⟩
    rw [show k - (i + 1) = m by omega]; exact R3
  · have hik : i = k := by omega
    subst hik
    rw [Nat.sub_self, List.replicate_zero, List.nil_append, List.drop_zero] at R2
    have := conv8 R2 (K := fun v h4 => ∃ t40 : ByteArray, v = .string t40 ∧ Q (.string t40) h4) ⟨_, rfl, hk h2 f2⟩
    rw [beB_len] at this; exact this
/-! ### The reference -/
theorem power_c [Gh] (k : Nat) (h7 : k ≤ 7) {h : Heap} {Q : Value → Heap → Prop} (hk : Q (.int .i64 ((256 ^ k : Nat) : Int)) h) : CallT Tryd.prog fn_ref01_Power #[.int .i64 k] h Q := by
  apply ref01_Power_s
  unfold ref01_Power_v
  refine LoopV.mk (fun st h' => ∃ (i : Nat), st.2 = (i : Int) ∧ st.1 = ((256 ^ i : Nat) : Int) ∧ i ≤ k ∧ h' = h) (fun st _ => k - st.2.toNat) ⟨0, rfl, rfl, by omega, rfl⟩ ?_
  rintro ⟨n, j⟩ h1 ⟨i, hj, hn, hi, hh⟩
  dsimp only at hj hn
  subst hj hn hh
  unfold ref01_Power_l1
  refine ifD (fun e => ?_) fun e => ?_
  · have hp : (256 : Nat) ^ i ≤ 256 ^ 6 := Nat.pow_le_pow_right (by omega) (by omega)
    have e2 : ((256 ^ i : Nat) : Int) * 256 = ((256 ^ (i + 1) : Nat) : Int) := by rw [Nat.pow_succ, Int.natCast_mul]; rfl
    have hq : (256 : Nat) ^ (i + 1) ≤ 256 ^ 7 := Nat.pow_le_pow_right (by omega) (by omega)
    have hq2 : (256 : Nat) ^ 7 = 72057594037927936 := by decide
    rw [e2]
    generalize hz : (256 : Nat) ^ (i + 1) = z at *
    rw [wr (by omega) (by omega), wr (by omega) (by omega)]
    exact ⟨⟨i + 1, rfl, by rw [hz], by omega, rfl⟩, by (try dsimp only); omega⟩
  · have : i = k := by omega
    subst this; exact hk
theorem ofNat_byte (n : Nat) : byteI (UInt8.ofNat (n % 256)) = ((n % 256 : Nat) : Int) := by unfold byteI; simp
theorem rput_c [Gh] : ∀ (k n : Nat) (_ : 1 ≤ k) (_ : k ≤ 7) (_ : n < 256 ^ k) {h : Heap} {Q : Value → Heap → Prop} (_ : ∀ h', Fr (fun _ => False) h h' → Q (.string (bs (beB k n))) h'), CallT Tryd.prog fn_ref01_Put #[.int .i64 n, .int .i64 k] h Q
  | 0, _, h1, _, _, _, _, _ => absurd h1 (by omega)
  | k + 1, n, h1, h7, hn, h, Q, hk => by
    have ih := rput_c k (n / 256)
    apply ref01_Put_s
    unfold ref01_Put_v
    have hp : (256 : Nat) ^ (k + 1) ≤ 256 ^ 7 := Nat.pow_le_pow_right (by omega) (by omega)
    have hp2 : (256 : Nat) ^ 7 = 72057594037927936 := by decide
    refine ifD (fun e => absurd e (by omega)) fun _ => ifD (fun e => absurd e (by omega)) fun _ => ifD (fun e => absurd e (by omega)) fun _ => ?_
    refine power_c (k + 1) h7 ⟨_, rfl, ifD (fun e => absurd e (by omega)) fun _ => ?_⟩
    have hm : wrap .u8 ((n % 256 : Nat) : Int) = byteI (UInt8.ofNat (n % 256)) := by rw [ofNat_byte, wr8 (by omega) (by omega)]
    refine ifE (fun e => ?_) fun e => ?_
    · have hk0 : k = 0 := by omega
      subst hk0
      have hn2 : n < 256 := by simpa using hn
      have hm2 : wrap .u8 (n : Int) = byteI (UInt8.ofNat (n % 256)) := by rw [← hm, Nat.mod_eq_of_lt hn2]
      rw [hm2]
      refine al_mk (vs := [UInt8.ofNat (n % 256)].flatMap bV) fun a h2 f2 e2 o2 => ?_
      have R := Row.of_own bV_len o2
      exact conv8 (l := [UInt8.ofNat (n % 256)]) R ⟨_, rfl, hk h2 f2⟩
    · have hk1 : 1 ≤ k := by omega
      have ed : wrap .i64 (Int.tdiv (n : Int) 256) = ((n / 256 : Nat) : Int) := by
        rw [Int.tdiv_eq_ediv_of_nonneg (by omega), wr (by omega) (by omega)]; omega
      have em : Int.tmod (n : Int) 256 = ((n % 256 : Nat) : Int) := by
        rw [Int.tmod_eq_emod_of_nonneg (by omega)]; omega
      have es : wrap .i64 (((k + 1 : Nat) : Int) - 1) = (k : Int) := by rw [wr (by omega) (by omega)]; omega
      rw [ed, em, es, hm]
      have hn' : n / 256 < 256 ^ k := by rw [Nat.div_lt_iff_lt_mul (by omega), ← Nat.pow_succ]; exact hn
      have lens : ((((bs (beB k (n / 256))).size + (bs [UInt8.ofNat (n % 256)]).size : Nat) : Int)) ≤ IntKind.max .i64 := by
        rw [bs_size, bs_size, beB_len, imax]; simp; omega
      have fin : ∀ h', Fr (fun _ => False) h h' → Q (.string (bs (beB k (n / 256)) ++ bs [UInt8.ofNat (n % 256)])) h' := fun h' f => by rw [bs_append]; exact hk h' f
      refine ⟨by decide, by decide, ?_, ?_⟩
      · refine ih hk1 (by omega) hn' fun h2 f2 => ⟨_, rfl, ?_⟩
        refine al_mk (vs := [UInt8.ofNat (n % 256)].flatMap bV) fun a h3 f3 e3 o3 => ?_
        exact conv8 (l := [UInt8.ofNat (n % 256)]) (Row.of_own bV_len o3) ⟨_, rfl, lens, fin h3 (f2.trans f3)⟩
      · refine al_mk (vs := [UInt8.ofNat (n % 256)].flatMap bV) fun a h3 f3 e3 o3 => ?_
        have R := Row.of_own bV_len o3
        refine ⟨ih hk1 (by omega) hn' fun h2 f2 => ⟨_, rfl, ?_⟩, ?_⟩
        · exact conv8 (l := [UInt8.ofNat (n % 256)]) (R.fr0 f2) ⟨_, rfl, lens, fin h2 (f3.trans f2)⟩
        · exact conv8 (l := [UInt8.ofNat (n % 256)]) R ⟨_, rfl, ih hk1 (by omega) hn' fun h2 f2 => ⟨_, rfl, lens, fin h2 (f3.trans f2)⟩⟩
theorem valF_lt (l : Nm) : ∀ n, valF n l < (n + 1) * 256 ^ l.length := by
  induction l with
  | nil => intro n; show n < (n + 1) * 1; omega
  | cons b l ih =>
    intro n
    have := ih (n * 256 + b.toNat)
    have hb := b.toNat_lt
    show valF (n * 256 + b.toNat) l < _
    refine Nat.lt_of_lt_of_le this ?_
    rw [List.length_cons, Nat.pow_succ, Nat.mul_comm (256 ^ l.length) 256, ← Nat.mul_assoc]
    exact Nat.mul_le_mul_right _ (by omega)
theorem value_c [Gh] (l : Nm) (hl : l.length ≤ 7) {h : Heap} {Q : Value → Heap → Prop} (hk : Q (.int .i64 (valB l)) h) : CallT Tryd.prog fn_ref01_Value #[.string (bs l)] h Q := by
  apply ref01_Value_s
  unfold ref01_Value_v
  refine LoopV.mk (fun st h' => ∃ (i : Nat), st.2 = (i : Int) ∧ st.1 = (valB (l.take i) : Int) ∧ i ≤ l.length ∧ h' = h) (fun st _ => l.length - st.2.toNat) ⟨0, rfl, rfl, by omega, rfl⟩ ?_
  rintro ⟨n, j⟩ h1 ⟨i, hj, hn, hi, hh⟩
  dsimp only at hj hn
  subst hj hn hh
  unfold ref01_Value_l1
  dsimp only
  rw [bs_size]
  refine ifD (fun e => ?_) fun e => ?_
  · have hlt : i < l.length := by omega
    refine ixS l i rfl hlt ?_
    have hb := byteI_le l[i]
    have hv : valB (l.take (i + 1)) = valB (l.take i) * 256 + l[i].toNat := by
      rw [show l.take (i + 1) = l.take i ++ [l[i]] by rw [List.take_append_getElem]]
      unfold valB; rw [valF_append]; rfl
    have h1 := valF_lt (l.take (i + 1)) 0
    have h2 := valF_lt (l.take i) 0
    have hq1 : (256 : Nat) ^ (l.take (i + 1)).length ≤ 256 ^ 7 := Nat.pow_le_pow_right (by omega) (by rw [List.length_take]; omega)
    have hq2 : (256 : Nat) ^ 7 = 72057594037927936 := by decide
    have hbe : byteI l[i] = (l[i].toNat : Int) := rfl
    unfold valB at hv ⊢
    rw [wr (x := byteI l[i]) (by omega) (by omega), wr (x := ((valF 0 (l.take i) : Nat) : Int) * 256) (by omega) (by omega), wr (by omega) (by omega), wr (by omega) (by omega)]
    refine ⟨⟨i + 1, rfl, ?_, hlt, rfl⟩, by (try dsimp only); omega⟩
    (try dsimp only); omega
  · rw [List.take_of_length_le (by omega)]; exact hk
theorem get_c [Gh] (l : Nm) (a k : Nat) (h1 : 1 ≤ k) (h7 : k ≤ 7) (ha : a + k ≤ l.length) (hl : l.length ≤ 2 ^ 40) {h : Heap} {Q : Value → Heap → Prop} (hk : Q (.tuple #[.int .i64 (valB ((l.drop a).take k)), .int .i64 0]) h) : CallT Tryd.prog fn_ref01_Get #[.string (bs l), .int .i64 a, .int .i64 k] h Q := by
  apply ref01_Get_s
  unfold ref01_Get_v
  rw [bs_size]
  refine ifD (fun e => absurd e (by omega)) fun _ => ifD (fun e => absurd e (by omega)) fun _ => ifD (fun e => absurd e (by omega)) fun _ => ifD (fun e => absurd e (by omega)) fun _ => ?_
  rw [wr (x := ((l.length : Nat) : Int) - (a : Int)) (by omega) (by omega)]
  refine ifD (fun e => absurd e (by omega)) fun _ => ?_
  refine slS l a (a + k) rfl (by rw [wr (by omega) (by omega)]; omega) (by omega) ha ?_
  rw [Nat.add_sub_cancel_left]
  exact value_c _ (by rw [List.length_take]; omega) ⟨_, rfl, hk⟩
theorem rnumber_c [Gh] (l : Nm) (a k : Nat) (h1 : 1 ≤ k) (h7 : k ≤ 7) (ha : a + k ≤ l.length) (hl : l.length ≤ 2 ^ 40) {x : Int} (hx : x = a) {h : Heap} {Q : Value → Heap → Prop} (hk : Q (.int .i64 (valB ((l.drop a).take k))) h) : CallT Tryd.prog fn_ref29_number #[.string (bs l), .int .i64 x, .int .i64 k] h Q := by
  subst hx
  apply ref29_number_s
  unfold ref29_number_v
  exact get_c l a k h1 h7 ha hl ⟨_, _, rfl, hk⟩
/-! ### The reader -/
structure RdF (h : Heap) (r : Addr) (s : Nm) (e : Int) (at_ : Nat) : Prop where
  own : ∃ a : Int, Own h r [.string (bs s), .int .i64 a, .int .i64 e] T_dns_reader ∧ (e = 0 → a = at_)
  le : e = 0 → at_ ≤ s.length
  lim : s.length ≤ 2 ^ 28
theorem RdF.fr {S : Nat → Prop} {h h' : Heap} {r : Addr} {s : Nm} {e : Int} {a : Nat} (R : RdF h r s e a) (f : Fr S h h') (hn : ¬ S r.block) : RdF h' r s e a := by
  obtain ⟨⟨x, o, hx⟩, h1, h2⟩ := R
  exact ⟨⟨x, o.fr f hn, hx⟩, h1, h2⟩
theorem RdF.fr0 {h h' : Heap} {r : Addr} {s : Nm} {e : Int} {a : Nat} (f : Fr (fun _ => False) h h') (R : RdF h r s e a) : RdF h' r s e a := R.fr f id
theorem RdF.lt {h : Heap} {r : Addr} {s : Nm} {e : Int} {a : Nat} (R : RdF h r s e a) : r.block < h.size := by
  obtain ⟨⟨x, o, hx⟩, h1, h2⟩ := R; exact o.lt
theorem RdF.bad {h : Heap} {r : Addr} {s : Nm} {e : Int} {a : Nat} (R : RdF h r s e a) (he : e ≠ 0) (b : Nat) : RdF h r s e b := by
  obtain ⟨⟨x, o, hx⟩, h1, h2⟩ := R
  exact ⟨⟨x, o, fun h => absurd h he⟩, fun h => absurd h he, h2⟩
def nextS (s : Nm) (e : Int) (a : Nat) : Int × Int × Nat := if e ≠ 0 then (0, e, a) else if h : a < s.length then (byteI s[a], 0, a + 1) else (0, 1, a)
theorem add0 (a : Addr) : a.add 0 = a := by obtain ⟨b, o, s⟩ := a; rfl
theorem next_c [Gh] {h : Heap} {r : Addr} {s : Nm} {e : Int} {a : Nat} (R : RdF h r s e a) {Q : Value → Heap → Prop} (hk : ∀ h', Fr (fun b => b = r.block) h h' → RdF h' r s (nextS s e a).2.1 (nextS s e a).2.2 → Q (.int .i64 (nextS s e a).1) h') : CallT Tryd.prog fn_dns_reader_next #[.pointer (some r)] h Q := by
  obtain ⟨⟨x, o, hx⟩, hle, hlim⟩ := R
  apply dns_reader_next_s
  unfold dns_reader_next_v
  unfold nextS at hk
  refine nn_mk (ldI_mk (o.cells.at (j := 2) rfl) (ifE (fun e0 => ?_) fun e0 => ?_))
  · subst e0
    have hx := hx rfl
    subst hx
    have hle := hle rfl
    rw [if_neg (by simp)] at hk
    refine nn_mk (ldI_mk (o.cells.at (j := 1) rfl) (nn_mk (ldS_mk (o.cells.at0 rfl) ?_)))
    rw [bs_size]
    refine ifD (fun e1 => ?_) fun e1 => ?_
    · rw [dif_neg (by omega)] at hk
      refine nn_mk (st1_own o 2 (by simp) rfl fun h1 f1 s1 o1 => ?_)
      unfold dns_reader_next_b1
      refine nn_mk (ldI_mk (o1.cells.at (j := 2) rfl) ?_)
      rw [if_pos (by decide)]
      exact hk h1 f1 ⟨⟨_, o1, fun h => absurd h (show ¬ ((1 : Int) = 0) by decide)⟩, fun h => absurd h (show ¬ ((1 : Int) = 0) by decide), hlim⟩
    · have hlt : a < s.length := by omega
      rw [dif_pos hlt] at hk
      unfold dns_reader_next_b1
      refine nn_mk (ldI_mk (o.cells.at (j := 2) rfl) ?_)
      rw [if_neg (by decide)]
      refine nn_mk (ldI_mk (o.cells.at (j := 1) rfl) (nn_mk ?_))
      rw [wr (by omega) (by omega)]
      refine st1_own o 1 (by simp) rfl fun h1 f1 s1 o1 => ?_
      refine nn_mk (ldS_mk (o1.cells.at0 rfl) (nn_mk (ldI_mk (o1.cells.at (j := 1) rfl) ?_)))
      have hb := byteI_le s[a]
      refine ixS s a (by rw [wr (by omega) (by omega)]; omega) hlt ?_
      rw [wr (by omega) (by omega)]
      exact hk h1 f1 ⟨⟨_, o1, fun _ => by show _ = ((a + 1 : Nat) : Int); omega⟩, fun _ => hlt, hlim⟩
  · rw [if_pos e0] at hk
    unfold dns_reader_next_b1
    refine nn_mk (ldI_mk (o.cells.at (j := 2) rfl) ?_)
    rw [if_pos (by simpa using e0)]
    exact hk h (Fr.refl _ _) ⟨⟨x, o, hx⟩, hle, hlim⟩
def failE (e k : Int) : Int := if e = 0 then k else e
theorem fail_c [Gh] {h : Heap} {r : Addr} {s : Nm} {e : Int} {a : Nat} (R : RdF h r s e a) {k : Int} (hk0 : k ≠ 0) {Q : Value → Heap → Prop} (hk : ∀ h', Fr (fun b => b = r.block) h h' → RdF h' r s (failE e k) a → Q (.tuple #[]) h') : CallT Tryd.prog fn_dns_reader_fail #[.pointer (some r), .int .i64 k] h Q := by
  obtain ⟨⟨x, o, hx⟩, hle, hlim⟩ := R
  apply dns_reader_fail_s
  unfold dns_reader_fail_v
  unfold failE at hk
  refine nn_mk (ldI_mk (o.cells.at (j := 2) rfl) (ifE (fun e0 => ?_) fun e0 => ?_))
  · rw [if_pos e0] at hk
    refine nn_mk (st1_own o 2 (by simp) rfl fun h1 f1 s1 o1 => ?_)
    exact hk h1 f1 ⟨⟨_, o1, fun h => absurd h hk0⟩, fun h => absurd h hk0, hlim⟩
  · rw [if_neg e0] at hk
    exact hk h (Fr.refl _ _) ⟨⟨x, o, hx⟩, hle, hlim⟩
/-- A number of `k` bytes: a value, an error, a place. -/
def numS (s : Nm) (k : Nat) (e : Int) (a : Nat) : Int × Nat := if e ≠ 0 then (e, a) else if a + k ≤ s.length then (0, a + k) else (1, a)
theorem or8 (n b : Nat) (hn : n < 2 ^ 40) (hb : b < 256) : wrap .i64 (BitVec.toNat (BitVec.ofInt (IntKind.bits .i64) (wrap .i64 ((n : Int) * 2 ^ (min (Int.toNat 8) (IntKind.bits .i64)))) ||| BitVec.ofInt (IntKind.bits .i64) (b : Int)) : Int) = ((n * 256 + b : Nat) : Int) := by
  have e : IntKind.bits .i64 = 64 := rfl
  have e8 : (2 : Int) ^ (min (Int.toNat 8) (IntKind.bits .i64)) = 256 := by decide
  have e2 : (n : Int) * 256 = ((n * 256 : Nat) : Int) := by omega
  rw [e8, wr (x := (n : Int) * 256) (by omega) (by omega), e2, e, BitVec.ofInt_natCast, BitVec.ofInt_natCast, BitVec.toNat_or, BitVec.toNat_ofNat, BitVec.toNat_ofNat, Nat.mod_eq_of_lt (a := n * 256) (by omega), Nat.mod_eq_of_lt (a := b) (by omega)]
  have := Nat.two_pow_add_eq_or_of_lt (i := 8) (b := b) (by omega) n
  have e3 : 2 ^ 8 * n = n * 256 := by omega
  rw [e3] at this
  rw [← this, wr (by omega) (by omega)]
theorem number_c [Gh] {h : Heap} {r : Addr} {s : Nm} {e : Int} {a : Nat} (R : RdF h r s e a) (k : Nat) (h7 : k ≤ 4) {Q : Value → Heap → Prop}
    (hk : ∀ n h', Fr (fun b => b = r.block) h h' → RdF h' r s (numS s k e a).1 (numS s k e a).2 → ((numS s k e a).1 = 0 → n = (valB ((s.drop a).take k) : Int)) → Q (.int .i64 n) h') : CallT Tryd.prog fn_dns_reader_number #[.pointer (some r), .int .i64 k] h Q := by
  have hle := R.le
  have hlim := R.lim
  apply dns_reader_number_s
  unfold dns_reader_number_v
  refine LoopV.mk (fun st h' => ∃ (i : Nat) (e' : Int) (a' : Nat), st.2 = (i : Int) ∧ i ≤ k ∧ Fr (fun b => b = r.block) h h' ∧ RdF h' r s e' a' ∧ (e' = 0 → e = 0 ∧ a' = a + i ∧ st.1 = (valB ((s.drop a).take i) : Int)) ∧ (e' ≠ 0 → (numS s k e a).1 = e')) (fun st _ => k - st.2.toNat)
    ⟨0, e, a, rfl, by omega, Fr.refl _ _, R, fun h => ⟨h, rfl, rfl⟩, fun h => by unfold numS; rw [if_pos h]⟩ ?_
  rintro ⟨n, j⟩ h1 ⟨i, e', a', hj, hi, f1, R1, hg, hb⟩
  have hj : j = (i : Int) := hj
  subst hj
  have hg : e' = 0 → e = 0 ∧ a' = a + i ∧ n = (valB ((s.drop a).take i) : Int) := hg
  unfold dns_reader_number_l1
  dsimp only
  refine ifD (fun e1 => ?_) fun e1 => ?_
  · refine ⟨by omega, next_c R1 fun h2 f2 R2 => ⟨_, rfl, ?_⟩⟩
    rw [wr (x := (i : Int) + 1) (by omega) (by omega)]
    refine ⟨⟨i + 1, _, _, rfl, by omega, f1.trans f2, R2, ?_, ?_⟩, by (try dsimp only); omega⟩
    · intro h0
      unfold nextS at h0 ⊢
      by_cases he : e' ≠ 0
      · rw [if_pos he] at h0; exact absurd h0 he
      rw [if_neg he] at h0 ⊢
      have he : e' = 0 := by omega
      obtain ⟨g1, g2, g3⟩ := hg he
      by_cases hlt : a' < s.length
      · rw [dif_pos hlt]
        refine ⟨g1, by dsimp only; omega, ?_⟩
        dsimp only
        subst g2 g3
        have hd : (s.drop a)[i]'(by rw [List.length_drop]; omega) = s[a + i] := by rw [List.getElem_drop]
        have hv : valB ((s.drop a).take (i + 1)) = valB ((s.drop a).take i) * 256 + s[a + i].toNat := by
          rw [show (s.drop a).take (i + 1) = (s.drop a).take i ++ [s[a + i]] by rw [← hd, List.take_append_getElem]]
          unfold valB; rw [valF_append]; rfl
        have h2 := valF_lt ((s.drop a).take i) 0
        have hq1 : (256 : Nat) ^ ((s.drop a).take i).length ≤ 256 ^ 4 := Nat.pow_le_pow_right (by omega) (by rw [List.length_take]; omega)
        have hb := s[a + i].toNat_lt
        unfold byteI
        rw [or8 _ _ (by unfold valB; omega) (by omega), hv]
      · rw [dif_neg hlt] at h0; exact absurd h0 (show ¬ ((1 : Int) = 0) by decide)
    · intro h0
      unfold nextS at h0 ⊢
      by_cases he : e' ≠ 0
      · rw [if_pos he] at h0 ⊢; exact hb he
      rw [if_neg he] at h0 ⊢
      have he : e' = 0 := by omega
      obtain ⟨g1, g2, g3⟩ := hg he
      by_cases hlt : a' < s.length
      · rw [dif_pos hlt] at h0; exact absurd rfl h0
      · rw [dif_neg hlt]
        unfold numS
        rw [if_neg (by simpa using g1), if_neg (by omega)]
  · have hik : i = k := by omega
    subst hik
    by_cases he : e' = 0
    · obtain ⟨g1, g2, g3⟩ := hg he
      have e3 : numS s i e a = (0, a + i) := by
        have := R1.le he
        unfold numS; rw [if_neg (by simpa using g1), if_pos (by omega)]
      rw [e3] at hk
      subst he g2
      exact hk n h1 f1 R1 fun _ => g3
    · have e3 := hb he
      refine hk n h1 f1 ?_ fun h0 => absurd (e3.symm.trans h0) he
      rw [e3]; exact R1.bad he _
end Go.Proofs.YtmjbcnbjedipdaaDoor
/-!
  Written names: what they are; the program's reading of a label.
-/
namespace Go.Proofs.YtmjbcnbjedipdaaDoor
set_option linter.unusedSimpArgs false
set_option linter.unusedVariables false
set_option maxRecDepth 20000
open Go
open Go.IntKind (wrap)
inductive NRes
  | err (e : Int)
  | ok (n : Nm) (en : Nat)
/-- The first error of a label's bytes. -/
def labelE (s : Nm) : Nat → Nat → Option Int
  | _, 0 => none
  | a, n + 1 => if h : a < s.length then (if letterB s[a] = true then labelE s (a + 1) n else some 2) else some 1
theorem labelE_succ (s : Nm) (a n : Nat) : labelE s a (n + 1) = if h : a < s.length then (if letterB s[a] = true then labelE s (a + 1) n else some 2) else some 1 := rfl
def grow (out t : Nm) : Nm := (if out = [] then [] else out ++ [46]) ++ t
def nameS (s : Nm) (a bg jumps count : Nat) (out : Nm) (en : Option Nat) : NRes :=
  if h : a < s.length then
    if s[a].toNat = 0 then .ok out (en.getD (a + 1))
    else if s[a].toNat < 64 then
      if count + 1 > 24 ∨ out.length + min out.length 1 + s[a].toNat > 253 then .err 2
      else match labelE s (a + 1) s[a].toNat with
        | some k => .err k
        | none => nameS s (a + 1 + s[a].toNat) bg jumps (count + 1) (grow out (lowL ((s.drop (a + 1)).take s[a].toNat))) en
    else if s[a].toNat < 192 then .err 2
    else if h2 : a + 1 < s.length then
      if hj : s[a].toNat % 64 * 256 + s[a + 1].toNat ≥ bg ∨ jumps + 1 > 24 then .err 2
      else nameS s (s[a].toNat % 64 * 256 + s[a + 1].toNat) (s[a].toNat % 64 * 256 + s[a + 1].toNat) (jumps + 1) count out (some (en.getD (a + 2)))
    else .err 1
  else .err 1
termination_by (25 - jumps, s.length - a)
decreasing_by
  · exact Prod.Lex.right _ (by omega)
  · exact Prod.Lex.left _ _ (by omega)
section
variable {s : Nm} {a bg jumps count : Nat} {out : Nm} {en : Option Nat}
theorem nameS_short (h : ¬ a < s.length) : nameS s a bg jumps count out en = .err 1 := by rw [nameS, dif_neg h]
theorem nameS_end (h : a < s.length) (h0 : s[a].toNat = 0) : nameS s a bg jumps count out en = .ok out (en.getD (a + 1)) := by rw [nameS, dif_pos h, if_pos h0]
theorem nameS_label (h : a < s.length) (h0 : s[a].toNat ≠ 0) (h1 : s[a].toNat < 64) : nameS s a bg jumps count out en = if count + 1 > 24 ∨ out.length + min out.length 1 + s[a].toNat > 253 then .err 2
      else match labelE s (a + 1) s[a].toNat with
        | some k => .err k
        | none => nameS s (a + 1 + s[a].toNat) bg jumps (count + 1) (grow out (lowL ((s.drop (a + 1)).take s[a].toNat))) en := by
  rw [nameS, dif_pos h, if_neg h0, if_pos h1]
theorem nameS_bad (h : a < s.length) (h1 : ¬ s[a].toNat < 64) (h2 : s[a].toNat < 192) : nameS s a bg jumps count out en = .err 2 := by
  rw [nameS, dif_pos h, if_neg (by omega), if_neg h1, if_pos h2]
theorem nameS_cut (h : a < s.length) (h2 : ¬ s[a].toNat < 192) (h3 : ¬ a + 1 < s.length) : nameS s a bg jumps count out en = .err 1 := by
  rw [nameS, dif_pos h, if_neg (by omega), if_neg (by omega), if_neg h2, dif_neg h3]
theorem nameS_jump (h : a < s.length) (h2 : ¬ s[a].toNat < 192) (h3 : a + 1 < s.length) : nameS s a bg jumps count out en = if s[a].toNat % 64 * 256 + s[a + 1].toNat ≥ bg ∨ jumps + 1 > 24 then .err 2
      else nameS s (s[a].toNat % 64 * 256 + s[a + 1].toNat) (s[a].toNat % 64 * 256 + s[a + 1].toNat) (jumps + 1) count out (some (en.getD (a + 2))) := by
  rw [nameS, dif_pos h, if_neg (by omega), if_neg (by omega), if_neg h2, dif_pos h3]
  split <;> rfl
end
theorem labelE_ne {s : Nm} : ∀ {n a : Nat} {k : Int}, labelE s a n = some k → k ≠ 0
  | 0, _, _, h => by cases h
  | n + 1, a, k, h => by
    unfold labelE at h
    split at h
    · split at h
      · exact labelE_ne h
      · cases h; decide
    · cases h; decide
/-- The state of the program's reading of a name. -/
structure NmF (h0 h : Heap) (tr to tl r : Addr) (s : Nm) (e : Int) (a count : Nat) (out : Nm) : Prop where
  fr : Fr (fun b => b = r.block) h0 h
  rd : RdF h r s e a
  otr : Own h tr [.pointer (some r)] T_p_dns_reader
  otl : Own h tl [.int .i64 count] T_int
  oto : ∃ p c, Own h to [.slice p out.length c] T_sl_uint8 ∧ Row 1 bV h p c out ∧ ∀ b, InA p b → h0.size ≤ b ∧ b ≠ tr.block ∧ b ≠ tl.block ∧ b ≠ to.block
  lt : r.block < h0.size
  ge : h0.size ≤ tr.block ∧ h0.size ≤ tl.block ∧ h0.size ≤ to.block
  ne : tr.block ≠ tl.block ∧ tr.block ≠ to.block ∧ tl.block ≠ to.block
section
variable {h0 h : Heap} {tr to tl r : Addr} {s : Nm} {e : Int} {a count : Nat} {out : Nm}
/-- A call that writes the reader alone. -/
theorem NmF.rdr (F : NmF h0 h tr to tl r s e a count out) {h' : Heap} (f : Fr (fun b => b = r.block) h h') {e' : Int} {a' : Nat} (R : RdF h' r s e' a') : NmF h0 h' tr to tl r s e' a' count out := by
  have lt := F.lt
  have ge := F.ge
  obtain ⟨p, c, o, Ro, hp⟩ := F.oto
  exact ⟨F.fr.trans f, R, F.otr.fr f (by omega), F.otl.fr f (by omega), ⟨p, c, o.fr f (by omega), Ro.fr f fun b hb h => by have := hp b hb; omega, hp⟩, F.lt, F.ge, F.ne⟩
theorem NmF.fr0 (F : NmF h0 h tr to tl r s e a count out) {h' : Heap} (f : Fr (fun _ => False) h h') : NmF h0 h' tr to tl r s e a count out := F.rdr (f.mono fun _ h => h.elim) (F.rd.fr0 f)
/-- A byte is appended to the name. -/
theorem NmF.push [Gh] (F : NmF h0 h tr to tl r s e a count out) (x : UInt8) (ho : out.length ≤ 1000) {b : Addr} (ob : Own h b (bV x) T_uint8) {p : Option Addr} {c : Nat} (hto : hcell h to = some (.slice p out.length c)) {K : Heap → Prop}
    (hk : ∀ h', NmF h0 h' tr to tl r s e a count (out ++ [x]) → K h') : bltV Tryd.prog .append #[T_sl_uint8, T_sl_uint8] T_sl_uint8 #[false, false] #[.slice p out.length c, .slice (some b) 1 1] h fun v h12 => ∃ t43a : Option Addr, ∃ t43n : Nat, ∃ t43c : Nat, v = .slice t43a t43n t43c ∧ st1 h12 to (.slice t43a t43n t43c) K := by
  obtain ⟨p', c', o, Ro, hp⟩ := F.oto
  have he := hto.symm.trans (o.cells.at0 (v := .slice p' out.length c') rfl)
  simp only [Option.some.injEq, Value.slice.injEq] at he
  obtain ⟨rfl, _, rfl⟩ := he
  have lt := F.lt
  have ge := F.ge
  have ne := F.ne
  have z := F.fr.size
  have l1 := F.otr.lt
  have l2 := F.otl.lt
  have l3 := o.lt
  refine app1 Ro ob (by omega) fun p2 c2 h2 R2 f2 hn2 => ⟨_, _, _, rfl, ?_⟩
  have z2 := f2.size
  have notp : ∀ b, InA p b → b ≠ r.block := fun b hb h => by have := hp b hb; omega
  have o2 : Own h2 to [.slice p out.length c] T_sl_uint8 := o.fr f2 fun h => (hp _ h).2.2.2 rfl
  refine st1_own0 o2 (by simp) rfl fun h3 f3 s3 o3 => ?_
  refine hk h3 ⟨(F.fr.tr f2 fun b hb hi => by have := hp b hi; omega).tr f3 fun b hb hi => by omega, (F.rd.fr f2 fun h => notp _ h rfl).fr f3 (by omega), (F.otr.fr f2 fun h => (hp _ h).2.1 rfl).fr f3 (by omega), (F.otl.fr f2 fun h => (hp _ h).2.2.1 rfl).fr f3 (by omega), ⟨p2, c2, o3, R2.fr f3 fun b hb h => ?_, fun b hb => ?_⟩, F.lt, F.ge, F.ne⟩
  · rcases hn2 b hb with h' | h'
    · exact (hp b h').2.2.2 h
    · omega
  · rcases hn2 b hb with h' | h'
    · exact hp b h'
    · omega
/-- One byte of a label. -/
theorem name1_b3 [Gh] (F : NmF h0 h tr to tl r s e a count out) (ho : out.length ≤ 1000) (x : UInt8) {t28 t29 : Int} {Q : Value → Heap → Prop} {Kn : Int → Heap → Prop} (hk : ∀ h', NmF h0 h' tr to tl r s e a count (out ++ [lowB x]) → Kn (wrap .i64 (t29 + 1)) h') : dns_reader_name_1_b3 to tr (byteI x) t28 t29 Q Kn h := by
  obtain ⟨p, c, o, Ro, hp⟩ := F.oto
  have cc := o.cells
  unfold dns_reader_name_1_b3
  refine ldL_mk (cc.at0 rfl) ?_
  have hb := byteI_le x
  refine small_c _ hb.1 hb.2 ⟨_, rfl, ldL_mk (cc.at0 rfl) rfl, ?_⟩
  rw [← byteI_low]
  refine al_mk (vs := bV (lowB x)) fun b h2 f2 e2 ob => ?_
  refine ⟨ldL_mk ((cc.fr0 f2).at0 rfl) rfl, ?_⟩
  exact (F.fr0 f2).push (lowB x) ho ob ((cc.fr0 f2).at0 rfl) fun h' F' => hk h' F'
theorem name1_loop [Gh] (F : NmF h0 h tr to tl r s 0 a count out) (n : Nat) (hn : n ≤ 63) (ho : out.length ≤ 300) {Q : Value → Heap → Prop}
    (hk : ∀ h' e' a' out', NmF h0 h' tr to tl r s e' a' count out' → out'.length ≤ 400 → (∀ k, labelE s a n = some k → e' = k) → (labelE s a n = none → e' = 0 ∧ a' = a + n ∧ out' = out ++ lowL ((s.drop a).take n)) → Q (.tuple #[]) h') : dns_reader_name_1_b1 (n : Int) to tr Q h := by
  unfold dns_reader_name_1_b1
  refine LoopV.mk (fun st h' => ∃ (i : Nat) (e' : Int) (a' : Nat) (o' : Nm), st = (i : Int) ∧ i ≤ n ∧ NmF h0 h' tr to tl r s e' a' count o' ∧ o'.length = out.length + i ∧ (e' ≠ 0 → labelE s a n = some e') ∧ (e' = 0 → a' = a + i ∧ labelE s a n = labelE s (a + i) (n - i) ∧ o' = out ++ lowL ((s.drop a).take i))) (fun st _ => n - st.toNat)
    ⟨0, 0, a, out, rfl, by omega, F, rfl, fun h => absurd rfl h, fun _ => ⟨rfl, rfl, by simp [lowL]⟩⟩ ?_
  rintro - h1 ⟨i, e', a', o', rfl, hi, F1, hlen, hbad, hgood⟩
  unfold dns_reader_name_1_l2
  have hsl := F1.rd.lim
  refine ifD (fun e1 => ?_) fun e1 => ?_
  · refine ldP_mk (F1.otr.cells.at0 rfl) ?_
    refine next_c F1.rd fun h2 f2 R2 => ⟨_, rfl, ?_⟩
    have F2 := F1.rdr f2 R2
    -- the byte, whatever it is
    obtain ⟨x, hx⟩ : ∃ x : UInt8, (nextS s e' a').1 = byteI x := by
      unfold nextS
      split
      · exact ⟨0, rfl⟩
      · split
        · exact ⟨_, rfl⟩
        · exact ⟨0, rfl⟩
    have hb := byteI_le x
    rw [hx, wrb hb.1 hb.2]
    refine allowed_c _ hb.1 hb.2 ⟨_, rfl, ?_⟩
    have fin : ∀ {h3 : Heap} {e2 : Int} {a2 : Nat}, NmF h0 h3 tr to tl r s e2 a2 count o' → (e2 ≠ 0 → labelE s a n = some e2) → (e2 = 0 → a2 = a + (i + 1) ∧ labelE s a n = labelE s (a + (i + 1)) (n - (i + 1)) ∧ o' ++ [lowB x] = out ++ lowL ((s.drop a).take (i + 1))) →
        dns_reader_name_1_b3 to tr (byteI x) (n : Int) (i : Int) Q (fun s_1 h' => (∃ (k : Nat) (e' : Int) (a' : Nat) (o' : Nm), s_1 = (k : Int) ∧ k ≤ n ∧ NmF h0 h' tr to tl r s e' a' count o' ∧ o'.length = out.length + k ∧ (e' ≠ 0 → labelE s a n = some e') ∧ (e' = 0 → a' = a + k ∧ labelE s a n = labelE s (a + k) (n - k) ∧ o' = out ++ lowL ((s.drop a).take k))) ∧ n - s_1.toNat < n - (i : Int).toNat) h3 := fun F3 g1 g2 => by
      refine name1_b3 F3 (by omega) x fun h' F' => ?_
      rw [wr (by omega) (by omega)]
      exact ⟨⟨i + 1, _, _, _, rfl, by omega, F', by simp; omega, g1, g2⟩, by omega⟩
    by_cases he : e' = 0
    · obtain ⟨ga, gl, go⟩ := hgood he
      obtain ⟨m, hm⟩ : ∃ m, n - i = m + 1 := ⟨n - i - 1, by omega⟩
      rw [hm, labelE_succ] at gl
      subst ga
      by_cases hlt : a + i < s.length
      · rw [dif_pos hlt] at gl
        have en : nextS s e' (a + i) = (byteI s[a + i], 0, a + i + 1) := by unfold nextS; rw [if_neg (by simpa using he), dif_pos hlt]
        rw [en] at F2 hx
        have hxe : x = s[a + i] := by
          apply UInt8.toNat_inj.1
          have hx : byteI s[a + i] = byteI x := hx
          unfold byteI at hx; omega
        subst hxe
        refine ifN (fun e3 => ?_) fun e3 => ?_
        · have e3 : letterB s[a + i] = false := e3
          rw [if_neg (by rw [e3]; decide)] at gl
          refine ldP_mk (F2.otr.cells.at0 rfl) (fail_c F2.rd (by decide) fun h3 f3 R3 => ⟨rfl, ?_⟩)
          have ef : failE 0 2 = 2 := rfl
          exact fin (F2.rdr f3 R3) (fun _ => by rw [gl]; rfl) fun h => absurd h (show ¬ ((2 : Int) = 0) by decide)
        · have e3 : letterB s[a + i] = true := e3
          rw [if_pos e3] at gl
          refine fin F2 (fun h => absurd rfl h) fun _ => ⟨rfl, by rw [gl]; congr 1; omega, ?_⟩
          have hd : (s.drop a)[i]'(by rw [List.length_drop]; omega) = s[a + i] := by rw [List.getElem_drop]
          rw [go, show (s.drop a).take (i + 1) = (s.drop a).take i ++ [s[a + i]] by rw [← hd, List.take_append_getElem]]
          unfold lowL; rw [List.map_append, List.append_assoc]; rfl
      · rw [dif_neg hlt] at gl
        have en : nextS s e' (a + i) = (0, 1, a + i) := by unfold nextS; rw [if_neg (by simpa using he), dif_neg hlt]
        rw [en] at F2
        refine ifN (fun e3 => ?_) fun e3 => ?_
        · refine ldP_mk (F2.otr.cells.at0 rfl) (fail_c F2.rd (by decide) fun h3 f3 R3 => ⟨rfl, ?_⟩)
          exact fin (F2.rdr f3 R3) (fun _ => by rw [gl]; rfl) fun h => absurd h (show ¬ ((1 : Int) = 0) by decide)
        · exact fin F2 (fun _ => gl) fun h => absurd h (show ¬ ((1 : Int) = 0) by decide)
    · have gl := hbad he
      have en : nextS s e' a' = (0, e', a') := by unfold nextS; rw [if_pos he]
      rw [en] at F2
      refine ifN (fun e3 => ?_) fun e3 => ?_
      · refine ldP_mk (F2.otr.cells.at0 rfl) (fail_c F2.rd (by decide) fun h3 f3 R3 => ⟨rfl, ?_⟩)
        have ef : failE e' 2 = e' := by unfold failE; rw [if_neg he]
        have F3 := F2.rdr f3 R3
        dsimp only at F3
        rw [ef] at F3
        exact fin F3 (fun _ => gl) fun h => absurd h he
      · exact fin F2 (fun _ => gl) fun h => absurd h he
  · have hin : i = n := by omega
    subst hin
    refine hk h1 e' a' o' F1 (by omega) (fun k hk => ?_) fun hnone => ?_
    · by_cases he : e' = 0
      · obtain ⟨_, g, _⟩ := hgood he
        rw [hk, Nat.sub_self] at g; cases g
      · have := hbad he; rw [hk] at this; exact (Option.some.inj this).symm
    · by_cases he : e' = 0
      · obtain ⟨g1, _, g3⟩ := hgood he
        exact ⟨he, g1, g3⟩
      · have := hbad he; rw [hnone] at this; cases this
theorem name1_c [Gh] (F : NmF h0 h tr to tl r s 0 a count out) (n : Nat) (hn : n ≤ 63) (ho : out.length ≤ 253) (hc : count ≤ 24) (hco : count = 0 ↔ out = []) {Q : Value → Heap → Prop}
    (hk : ∀ h' e' a' out', NmF h0 h' tr to tl r s e' a' (count + 1) out' → (count + 1 > 24 ∨ out.length + min out.length 1 + n > 253 → e' = 2) →
      (¬ (count + 1 > 24 ∨ out.length + min out.length 1 + n > 253) → (∀ k, labelE s a n = some k → e' = k) ∧ (labelE s a n = none → e' = 0 ∧ a' = a + n ∧ out' = grow out (lowL ((s.drop a).take n)))) → Q (.tuple #[]) h') :
    CallT Tryd.prog fn_dns_reader_name_1 #[.int .i64 n, .pointer (some tl), .pointer (some to), .pointer (some tr)] h Q := by
  apply dns_reader_name_1_s
  unfold dns_reader_name_1_v
  refine ldI_mk (F.otl.cells.at0 rfl) ?_
  rw [wr (by omega) (by omega)]
  have lt := F.lt
  have ge := F.ge
  have ne := F.ne
  refine st1_own0 F.otl (by simp) rfl fun h1 f1 s1 o1 => ?_
  have F1 : NmF h0 h1 tr to tl r s 0 a (count + 1) out := by
    obtain ⟨p, c, o, Ro, hp⟩ := F.oto
    exact ⟨F.fr.tr f1 fun b hb hi => by omega, F.rd.fr f1 (by omega), F.otr.fr f1 (by omega), o1, ⟨p, c, o.fr f1 (by omega), Ro.fr f1 fun b hb h => (hp b hb).2.2.1 h, hp⟩, F.lt, F.ge, F.ne⟩
  clear f1 s1
  refine ldI_mk (o1.cells.at0 rfl) ?_
  have bad : (count + 1 > 24 ∨ out.length + min out.length 1 + n > 253) → ldP h1 tr fun t21 => CallT Tryd.prog fn_dns_reader_fail #[.pointer t21, .int .i64 2] h1 fun v h2 => v = .tuple #[] ∧ Q (.tuple #[]) h2 := fun hb => by
    refine ldP_mk (F1.otr.cells.at0 rfl) (fail_c F1.rd (by decide) fun h3 f3 R3 => ⟨rfl, ?_⟩)
    exact hk h3 _ _ _ (F1.rdr f3 R3) (fun _ => rfl) fun h => absurd hb h
  refine ifD (fun e1 => bad (.inl (by omega))) fun e1 => ?_
  obtain ⟨p, c, o, Ro, hp⟩ := F1.oto
  have cc := o.cells
  refine ldL_mk (cc.at0 rfl) (ldL_mk (cc.at0 rfl) ?_)
  have em : (if (1 : Int) < ((out.length : Nat) : Int) then (1 : Int) else ((out.length : Nat) : Int)) = ((min out.length 1 : Nat) : Int) := by split <;> omega
  rw [em, wr (x := ((out.length : Nat) : Int) + ((min out.length 1 : Nat) : Int)) (by omega) (by omega), wr (x := ((out.length : Nat) : Int) + ((min out.length 1 : Nat) : Int) + (n : Int)) (by omega) (by omega)]
  refine ifD (fun e2 => bad (.inr (by omega))) fun e2 => ?_
  have nb : ¬ (count + 1 > 24 ∨ out.length + min out.length 1 + n > 253) := by omega
  refine ldI_mk (F1.otl.cells.at0 rfl) (ifD (fun e3 => ?_) fun e3 => ?_)
  · have hne : out ≠ [] := fun h => by have := hco.2 h; omega
    refine ldL_mk (cc.at0 rfl) ?_
    refine al_mk (vs := bV 46) fun b h2 f2 e2 ob => ?_
    refine (F1.fr0 f2).push 46 (by omega) ob ((cc.fr0 f2).at0 rfl) fun h3 F3 => ?_
    refine name1_loop F3 n hn (by simp; omega) fun h' e' a' o' F' _ g1 g2 => ?_
    refine hk h' e' a' o' F' (fun h => absurd h nb) fun _ => ⟨g1, fun hl => ?_⟩
    obtain ⟨g3, g4, g5⟩ := g2 hl
    refine ⟨g3, g4, ?_⟩
    rw [g5]; unfold grow; rw [if_neg hne]
  · have he : out = [] := hco.1 (by omega)
    refine name1_loop F1 n hn (by omega) fun h' e' a' o' F' _ g1 g2 => ?_
    refine hk h' e' a' o' F' (fun h => absurd h nb) fun _ => ⟨g1, fun hl => ?_⟩
    obtain ⟨g3, g4, g5⟩ := g2 hl
    refine ⟨g3, g4, ?_⟩
    rw [g5]; unfold grow; rw [if_pos he, he]
end
end Go.Proofs.YtmjbcnbjedipdaaDoor
/-!
  The program's reading of a name.
-/
namespace Go.Proofs.YtmjbcnbjedipdaaDoor
set_option linter.unusedSimpArgs false
set_option linter.unusedVariables false
set_option maxRecDepth 20000
open Go
open Go.IntKind (wrap)
def enI : Option Nat → Int
  | none => -1
  | some x => x
theorem RdF.raw {h : Heap} {r : Addr} {s : Nm} {e : Int} {a : Nat} (R : RdF h r s e a) {K : Int → Prop} (hk : ∀ x : Int, (e = 0 → x = a) → K x) : ldI h (r.add 1) .i64 K := by
  obtain ⟨⟨x, o, hx⟩, h1, h2⟩ := R
  exact ldI_mk (o.cells.at (j := 1) rfl) (hk x hx)
theorem RdF.err {h : Heap} {r : Addr} {s : Nm} {e : Int} {a : Nat} (R : RdF h r s e a) {K : Int → Prop} (hk : K e) : ldI h (r.add 2) .i64 K := by
  obtain ⟨⟨x, o, hx⟩, h1, h2⟩ := R
  exact ldI_mk (o.cells.at (j := 2) rfl) hk
theorem RdF.str {h : Heap} {r : Addr} {s : Nm} {e : Int} {a : Nat} (R : RdF h r s e a) {K : ByteArray → Prop} (hk : K (bs s)) : ldS h r K := by
  obtain ⟨⟨x, o, hx⟩, h1, h2⟩ := R
  exact ldS_mk (o.cells.at0 rfl) hk
theorem RdF.setAt {h : Heap} {r : Addr} {s : Nm} {e : Int} {a : Nat} (R : RdF h r s e a) (x : Int) (b : Nat) (hx : e = 0 → x = b ∧ b ≤ s.length) {K : Heap → Prop} (hk : ∀ h', Fr (fun c => c = r.block) h h' → RdF h' r s e b → K h') : st1 h (r.add 1) (.int .i64 x) K := by
  obtain ⟨⟨y, o, hy⟩, h1, h2⟩ := R
  exact st1_own o 1 (by simp) rfl fun h1 f1 s1 o1 => hk h1 f1 ⟨⟨x, o1, fun h => (hx h).1⟩, fun h => (hx h).2, h2⟩
theorem RdF.setErr {h : Heap} {r : Addr} {s : Nm} {e : Int} {a : Nat} (R : RdF h r s e a) {x : Int} (h0 : x ≠ 0) {K : Heap → Prop} (hk : ∀ h', Fr (fun c => c = r.block) h h' → RdF h' r s x a → K h') : st1 h (r.add 2) (.int .i64 x) K := by
  obtain ⟨⟨y, o, hy⟩, h1, h2⟩ := R
  exact st1_own o 2 (by simp) rfl fun h1 f1 s1 o1 => hk h1 f1 ⟨⟨_, o1, fun h => absurd h h0⟩, fun h => absurd h h0, h2⟩
theorem and63 (u : Nat) (hu : u < 256) : wrap .i64 (BitVec.toNat (BitVec.ofInt (IntKind.bits .i64) (u : Int) &&& BitVec.ofInt (IntKind.bits .i64) 63) : Int) = ((u % 64 : Nat) : Int) := by
  have e : IntKind.bits .i64 = 64 := rfl
  have e2 : (63 : Int) = ((63 : Nat) : Int) := rfl
  rw [e, e2, BitVec.ofInt_natCast, BitVec.ofInt_natCast, BitVec.toNat_and, BitVec.toNat_ofNat, BitVec.toNat_ofNat, Nat.mod_eq_of_lt (a := u) (by omega), Nat.mod_eq_of_lt (a := 63) (by omega)]
  rw [show (63 : Nat) = 2 ^ 6 - 1 by rfl, Nat.and_two_pow_sub_one_eq_mod, wr (by omega) (by omega)]
structure NmI (h0 h : Heap) (tr to tl r : Addr) (s : Nm) (e0 : Int) (a0 : Nat) (n : Nat) (st : Int × Int × Int) (e : Int) (a count : Nat) (out : Nm) : Prop where
  F : NmF h0 h tr to tl r s e a count out
  bad : e ≠ 0 → (e0 ≠ 0 ∧ e = e0) ∨ (e0 = 0 ∧ nameS s a0 a0 0 0 [] none = .err e)
  good : e = 0 → e0 = 0 ∧ ∃ (bg jumps : Nat) (en : Option Nat), st = ((jumps : Int), (bg : Int), enI en) ∧ nameS s a0 a0 0 0 [] none = nameS s a bg jumps count out en ∧ jumps ≤ 24 ∧ count ≤ 24 ∧ out.length ≤ 253 ∧ (count = 0 ↔ out = []) ∧ bg ≤ s.length ∧ (∀ x, en = some x → x ≤ s.length) ∧
    n = (25 - jumps) * (s.length + 2) + (s.length + 1 - a) + 1
theorem labelE_len {s : Nm} : ∀ {n a : Nat}, labelE s a n = none → 0 < n → a + n ≤ s.length
  | 0, _, _, h => absurd h (by omega)
  | n + 1, a, h, _ => by
    rw [labelE_succ] at h
    split at h
    · split at h
      · rcases Nat.eq_zero_or_pos n with hn | hn
        · subst hn; omega
        · have := labelE_len h hn; omega
      · cases h
    · cases h
theorem RdF.cell1 {h : Heap} {r : Addr} {s : Nm} {e : Int} {a : Nat} (R : RdF h r s e a) : ∃ x : Int, hcell h (r.add 1) = some (.int .i64 x) ∧ (e = 0 → x = a) := by
  obtain ⟨⟨x, o, hx⟩, h1, h2⟩ := R
  exact ⟨x, o.cells.at (j := 1) rfl, hx⟩
theorem name_c [Gh] {h : Heap} {r : Addr} {s : Nm} {e : Int} {a : Nat} (R : RdF h r s e a) {Q : Value → Heap → Prop}
    (hbad : e ≠ 0 → ∀ h', Fr (fun b => b = r.block) h h' → RdF h' r s e a → Q (.string (bs [])) h')
    (herr : e = 0 → ∀ k, nameS s a a 0 0 [] none = .err k → k ≠ 0 → ∀ h' a', Fr (fun b => b = r.block) h h' → RdF h' r s k a' → Q (.string (bs [])) h')
    (hok : e = 0 → ∀ n en, nameS s a a 0 0 [] none = .ok n en → ∀ h', Fr (fun b => b = r.block) h h' → RdF h' r s 0 en → Q (.string (bs n)) h') :
    CallT Tryd.prog fn_dns_reader_name #[.pointer (some r)] h Q := by
  have lr := R.lt
  apply dns_reader_name_s
  unfold dns_reader_name_v
  refine al_mk (vs := [.pointer (some r)]) fun tr h1 f1 e1 o1 => ?_
  refine al_mk (vs := [.slice none 0 0]) fun to h2 f2 e2 o2 => ?_
  have R2 := (R.fr0 f1).fr0 f2
  obtain ⟨x, hc2, hx⟩ := R2.cell1
  refine ldP_mk ((o1.fr0 f2).cells.at0 rfl) (nn_mk (ldI_mk hc2 ?_))
  refine al_mk (vs := [.int .i64 0]) fun tl h3 f3 e3 o3 => ?_
  have z1 := f1.size
  have z2 := f2.size
  have z3 := f3.size
  have ltr := o1.lt
  have lto := o2.lt
  have o13 := (o1.fr0 f2).fr0 f3
  have hc3 := f3.hcell hc2 id
  refine ⟨ldP_mk (o13.cells.at0 rfl) rfl, ldI_mk hc3 rfl, ?_⟩
  refine st1_own0 o3 (by simp) rfl fun h4 f4 s4 o4 => ?_
  have o14 := o13.fr f4 (by omega)
  refine ⟨ldP_mk (o14.cells.at0 rfl) rfl, ldI_mk (f4.hcell hc3 (by rw [add_block]; omega)) rfl, ?_⟩
  have F03 : Fr (fun b => b = r.block) h h3 := ((f1.trans f2).trans f3).mono fun _ h => h.elim
  have F4 : NmF h h4 tr to tl r s e a 0 [] := ⟨F03.tr f4 fun b hb hi => by omega, (R2.fr0 f3).fr f4 (by omega), o14, o4, ⟨none, 0, (o2.fr0 f3).fr f4 (by omega), Row.nil, fun b hb => (notInA hb).elim⟩, lr, by omega, by omega⟩
  clear f4 s4 hc3 hc2 o13 o14 o3 o4 F03 R2 o1 o2
  have hale := R.le
  have hsl := R.lim
  refine LoopV.go (fun n st h' => ∃ e' a' count out, NmI h h' tr to tl r s e a n st e' a' count out) ((25 - 0) * (s.length + 2) + (s.length + 1 - a) + 1) ⟨e, a, 0, [], F4, fun he => .inl ⟨he, rfl⟩, fun he => ⟨he, a, 0, none, by rw [hx he]; rfl, rfl, by omega, by omega, by simp, by simp, hale he, fun _ h => (by cases h), rfl⟩⟩ ?_
  rintro n ⟨jm, lim, en⟩ h5 ⟨e', a', count, out, F, hb, hg⟩ Kn hK
  unfold dns_reader_name_l1
  dsimp only
  -- the end at an error
  have fail : ∀ {h6 : Heap} {k : Int} {b c : Nat} {o : Nm} {st : Int × Int × Int}, 0 < n → e = 0 → nameS s a a 0 0 [] none = .err k → k ≠ 0 → NmF h h6 tr to tl r s k b c o → Kn st h6 := fun hn he hk h0 F6 => hK 0 _ _ hn ⟨_, _, _, _, F6, fun _ => .inr ⟨he, hk⟩, fun h => absurd h h0⟩
  refine ldP_mk (F.otr.cells.at0 rfl) (nn_mk (F.rd.err (ifE (fun e1 => ?_) fun e1 => ?_)))
  · subst e1
    obtain ⟨he, bg, jumps, eno, hst, hnm, hj, hc24, hol, hco, hbg, heno, hn⟩ := hg rfl
    simp only [Prod.mk.injEq] at hst
    obtain ⟨rfl, rfl, rfl⟩ := hst
    have hale' := F.rd.le rfl
    refine ldP_mk (F.otr.cells.at0 rfl) (next_c F.rd fun h6 f6 R6 => ⟨_, rfl, ?_⟩)
    have F6 := F.rdr f6 R6
    refine ldP_mk (F6.otr.cells.at0 rfl) (nn_mk (F6.rd.err ?_))
    by_cases hlt : a' < s.length
    · have en' : nextS s 0 a' = (byteI s[a'], 0, a' + 1) := by unfold nextS; rw [if_neg (by simp), dif_pos hlt]
      rw [en'] at F6 ⊢
      dsimp only at F6 ⊢
      rw [if_neg (by decide)]
      have hbt := s[a'].toNat_lt
      have ebt : byteI s[a'] = (s[a'].toNat : Int) := rfl
      refine ifE (fun e2 => ?_) fun e2 => ?_
      · -- the end
        rw [nameS_end hlt (by omega)] at hnm
        obtain ⟨p, c, o, Ro, hp⟩ := F6.oto
        refine ifD (fun e3 => ?_) fun e3 => ?_
        · cases eno with
          | none => exact absurd e3 (by decide)
          | some y =>
            refine ldP_mk (F6.otr.cells.at0 rfl) (nn_mk (F6.rd.setAt y y (fun _ => ⟨rfl, heno y rfl⟩) fun h7 f7 R7 => ?_))
            have F7 := F6.rdr f7 R7
            obtain ⟨p, c, o, Ro, hp⟩ := F7.oto
            exact ldL_mk (o.cells.at0 rfl) (conv8 Ro ⟨_, rfl, hok he _ _ hnm h7 F7.fr R7⟩)
        · cases eno with
          | some y => exact absurd (show (0 : Int) ≤ enI (some y) by show (0 : Int) ≤ (y : Int); omega) e3
          | none => exact ldL_mk (o.cells.at0 rfl) (conv8 Ro ⟨_, rfl, hok he _ _ hnm h6 F6.fr F6.rd⟩)
      refine ifD (fun e3 => ?_) fun e3 => ?_
      · -- a label
        rw [nameS_label hlt (by omega) (by omega)] at hnm
        rw [ebt]
        refine name1_c F6 s[a'].toNat (by omega) hol hc24 hco fun h7 e7 a7 o7 F7 hbad7 hgood7 => ⟨rfl, ?_⟩
        by_cases hcase : count + 1 > 24 ∨ out.length + min out.length 1 + s[a'].toNat > 253
        · rw [if_pos hcase] at hnm
          have := hbad7 hcase
          subst this
          exact fail (by omega) he hnm (by decide) F7
        · rw [if_neg hcase] at hnm
          obtain ⟨g1, g2⟩ := hgood7 hcase
          cases hle : labelE s (a' + 1) s[a'].toNat with
          | some k =>
            rw [hle] at hnm
            have := g1 k hle
            subst this
            exact fail (by omega) he hnm (labelE_ne hle) F7
          | none =>
            rw [hle] at hnm
            obtain ⟨rfl, rfl, rfl⟩ := g2 hle
            have hlen := labelE_len hle (by omega)
            have hgl : (grow out (lowL ((s.drop (a' + 1)).take s[a'].toNat))).length = out.length + min out.length 1 + s[a'].toNat := by
              have ht : (lowL ((s.drop (a' + 1)).take s[a'].toNat)).length = s[a'].toNat := by rw [lowL_len, List.length_take, List.length_drop]; omega
              unfold grow
              rw [List.length_append, ht]
              split
              · rename_i h; subst h; simp
              · rename_i h
                have : 0 < out.length := List.length_pos_iff.2 h
                simp; omega
            have hmeas : (25 - jumps) * (s.length + 2) + (s.length + 1 - (a' + 1 + s[a'].toNat)) + 1 < n := by
              have hm1 : s.length + 1 - (a' + 1 + s[a'].toNat) < s.length + 1 - a' := by clear hbt ebt hn; omega
              rw [hn]; exact Nat.succ_lt_succ (Nat.add_lt_add_left hm1 _)
            have q1 : count + 1 ≤ 24 := by omega
            have q2 : (grow out (lowL ((s.drop (a' + 1)).take s[a'].toNat))).length ≤ 253 := by omega
            have q3 : count + 1 = 0 ↔ grow out (lowL ((s.drop (a' + 1)).take s[a'].toNat)) = [] := by
              refine ⟨fun h => by omega, fun h => ?_⟩
              rw [h, List.length_nil] at hgl
              omega
            exact hK _ _ _ hmeas ⟨_, _, _, _, F7, fun h => absurd rfl h, fun _ => ⟨he, bg, jumps, eno, rfl, hnm, hj, q1, q2, q3, hbg, heno, rfl⟩⟩
      refine ifD (fun e4 => ?_) fun e4 => ?_
      · rw [nameS_bad hlt (by omega) (by omega)] at hnm
        refine ldP_mk (F6.otr.cells.at0 rfl) (fail_c F6.rd (by decide) fun h7 f7 R7 => ⟨rfl, ?_⟩)
        exact fail (by omega) he hnm (by decide) (F6.rdr f7 R7)
      · -- a pointer
        refine ⟨by omega, ldP_mk (F6.otr.cells.at0 rfl) (next_c F6.rd fun h7 f7 R7 => ⟨_, rfl, ?_⟩)⟩
        have F7 := F6.rdr f7 R7
        -- what follows once the end is set
        have b3 : ∀ {h8 : Heap} {e8 : Int} {b : Nat} {ev to_ : Int}, NmF h h8 tr to tl r s e8 b count out → (e8 = 0 → ∃ tn : Nat, to_ = tn ∧ tn ≤ s.length ∧ ∀ h9, NmF h h9 tr to tl r s e8 tn count out → Kn (((jumps : Int) + 1), to_, ev) h9) → (e8 ≠ 0 → nameS s a a 0 0 [] none = .err e8) → dns_reader_name_b3 tr to ((jumps : Int) + 1) ev tl to tr to_ Q Kn h8 := by
          intro h8 e8 b ev to_ F8 hg8 hb8
          unfold dns_reader_name_b3
          refine ldP_mk (F8.otr.cells.at0 rfl) (nn_mk ?_)
          by_cases h8 : e8 = 0
          · obtain ⟨tn, h1, h2, h3⟩ := hg8 h8
            exact F8.rd.setAt _ tn (fun _ => ⟨h1, h2⟩) fun h9 f9 R9 => h3 h9 (F8.rdr f9 R9)
          · exact F8.rd.setAt _ 0 (fun h => absurd h h8) fun h9 f9 R9 => fail (by omega) he (hb8 h8) h8 (F8.rdr f9 R9)
        have wj : wrap .i64 ((jumps : Int) + 1) = (jumps : Int) + 1 := wr (by omega) (by omega)
        by_cases hlt2 : a' + 1 < s.length
        · have en2 : nextS s 0 (a' + 1) = (byteI s[a' + 1], 0, a' + 1 + 1) := by unfold nextS; rw [if_neg (by simp), dif_pos hlt2]
          rw [en2] at F7 ⊢
          dsimp only at F7 ⊢
          rw [nameS_jump hlt (by omega) hlt2] at hnm
          have hbt2 := s[a' + 1].toNat_lt
          have ebt2 : byteI s[a' + 1] = (s[a' + 1].toNat : Int) := rfl
          rw [ebt, ebt2, and63 _ hbt, or8 _ _ (by omega) hbt2]
          have b2 : ∀ {ev : Int}, ev = enI (some (eno.getD (a' + 2))) → dns_reader_name_b2 tr to (jumps : Int) (bg : Int) ev tl to tr ((s[a'].toNat % 64 * 256 + s[a' + 1].toNat : Nat) : Int) Q Kn h7 := fun {ev} hev => by
            generalize htn : s[a'].toNat % 64 * 256 + s[a' + 1].toNat = tn at *
            unfold dns_reader_name_b2
            rw [wj]
            have bad2 : (tn ≥ bg ∨ jumps + 1 > 24) → ldP h7 tr fun t44 => CallT Tryd.prog fn_dns_reader_fail #[.pointer t44, .int .i64 2] h7 fun v h12 => v = .tuple #[] ∧ dns_reader_name_b3 tr to ((jumps : Int) + 1) ev tl to tr (tn : Int) Q Kn h12 := fun hbd => by
              rw [if_pos hbd] at hnm
              refine ldP_mk (F7.otr.cells.at0 rfl) (fail_c F7.rd (by decide) fun h8 f8 R8 => ⟨rfl, ?_⟩)
              exact b3 (F7.rdr f8 R8) (fun h => absurd h (show ¬ ((2 : Int) = 0) by decide)) fun _ => hnm
            refine ifD (fun e5 => bad2 (.inl (by omega))) fun e5 => ifD (fun e6 => bad2 (.inr (by omega))) fun e6 => ?_
            rw [if_neg (by omega)] at hnm
            refine b3 F7 (fun _ => ⟨tn, rfl, by omega, fun h9 F9 => ?_⟩) fun h => absurd rfl h
            obtain ⟨q, hq⟩ : ∃ q, 25 - jumps = q + 1 := ⟨24 - jumps, by omega⟩
            have hq2 : 25 - (jumps + 1) = q := by omega
            have hmeas : (25 - (jumps + 1)) * (s.length + 2) + (s.length + 1 - tn) + 1 < n := by
              rw [hq2, hn, hq, Nat.succ_mul]
              generalize q * (s.length + 2) = z
              omega
            refine hK _ _ _ hmeas ⟨_, _, _, _, F9, fun h => absurd rfl h, fun _ => ⟨he, tn, jumps + 1, some (eno.getD (a' + 2)), ?_, hnm, by omega, hc24, hol, hco, by omega, fun x hx => ?_, rfl⟩⟩
            · rw [hev]; rfl
            · cases hx
              cases eno with
              | none => show a' + 2 ≤ _; omega
              | some y => exact heno y rfl
          refine ifD (fun e5 => ?_) fun e5 => ?_
          · refine ldP_mk (F7.otr.cells.at0 rfl) (nn_mk (F7.rd.raw fun y hy => b2 ?_))
            rw [hy rfl]
            cases eno with
            | none => rfl
            | some z => exact absurd e5 (by show ¬ ((z : Int) < 0); omega)
          · refine b2 ?_
            cases eno with
            | none => exact absurd (show enI none < 0 by decide) e5
            | some z => rfl
        · have en2 : nextS s 0 (a' + 1) = (0, 1, a' + 1) := by unfold nextS; rw [if_neg (by simp), dif_neg hlt2]
          rw [en2] at F7 ⊢
          dsimp only at F7 ⊢
          rw [nameS_cut hlt (by omega) hlt2] at hnm
          have b2 : ∀ {ev to_ : Int}, dns_reader_name_b2 tr to (jumps : Int) (bg : Int) ev tl to tr to_ Q Kn h7 := fun {ev to_} => by
            unfold dns_reader_name_b2
            rw [wj]
            have g0 : ∀ {h8 : Heap} {b : Nat}, NmF h h8 tr to tl r s 1 b count out → dns_reader_name_b3 tr to ((jumps : Int) + 1) ev tl to tr to_ Q Kn h8 := fun F8 => b3 F8 (fun h => absurd h (by decide)) fun _ => hnm
            have gf : ldP h7 tr fun t44 => CallT Tryd.prog fn_dns_reader_fail #[.pointer t44, .int .i64 2] h7 fun v h12 => v = .tuple #[] ∧ dns_reader_name_b3 tr to ((jumps : Int) + 1) ev tl to tr to_ Q Kn h12 :=
              ldP_mk (F7.otr.cells.at0 rfl) (fail_c F7.rd (by decide) fun h8 f8 R8 => ⟨rfl, g0 (F7.rdr f8 R8)⟩)
            exact ifD (fun _ => gf) fun _ => ifD (fun _ => gf) fun _ => g0 F7
          refine ifD (fun e5 => ?_) fun e5 => b2
          exact ldP_mk (F7.otr.cells.at0 rfl) (nn_mk (F7.rd.raw fun y hy => b2))
    · have en' : nextS s 0 a' = (0, 1, a') := by unfold nextS; rw [if_neg (by simp), dif_neg hlt]
      rw [en'] at F6 ⊢
      dsimp only at F6 ⊢
      rw [if_pos (by decide)]
      rw [nameS_short hlt] at hnm
      exact fail (by omega) he hnm (by decide) F6
  · rcases hb e1 with ⟨h1, h2⟩ | ⟨h1, h2⟩
    · subst h2
      exact hbad e1 h5 F.fr (F.rd.bad e1 a)
    · exact herr h1 _ h2 e1 h5 _ F.fr F.rd
end Go.Proofs.YtmjbcnbjedipdaaDoor
/-!
  The reference's reading of a name.
-/
namespace Go.Proofs.YtmjbcnbjedipdaaDoor
set_option linter.unusedSimpArgs false
set_option linter.unusedVariables false
set_option maxRecDepth 20000
open Go
open Go.IntKind (wrap)
def resV : NRes → Value
  | .err k => .tuple #[.string (bs []), .int .i64 0, .int .i64 k]
  | .ok n en => .tuple #[.string (bs n), .int .i64 en, .int .i64 0]
theorem val2 (s : Nm) (a : Nat) (h : a + 1 < s.length) : valB ((s.drop a).take 2) = s[a].toNat * 256 + s[a + 1].toNat := by
  rw [List.drop_eq_getElem_cons (show a < s.length by omega), List.drop_eq_getElem_cons h]
  show (0 * 256 + s[a].toNat) * 256 + s[a + 1].toNat = _
  omega
theorem rname_c [Gh] (s : Nm) (hs : s.length ≤ 2 ^ 28) (a : Nat) (ha : a ≤ 2 ^ 30) {x : Int} (hx : x = a) {h : Heap} {Q : Value → Heap → Prop} (hk : ∀ h', Fr (fun _ => False) h h' → Q (resV (nameS s a a 0 0 [] none)) h') :
    CallT Tryd.prog fn_ref29_name #[.string (bs s), .int .i64 x] h Q := by
  subst hx
  apply ref29_name_s
  unfold ref29_name_v
  refine LoopV.go (fun n st h' => ∃ (a' count jumps bg : Nat) (out : Nm) (en : Option Nat), st = ((a' : Int), bs out, (count : Int), (jumps : Int), enI en, (bg : Int)) ∧ Fr (fun _ => False) h h' ∧ nameS s a a 0 0 [] none = nameS s a' bg jumps count (lowL out) en ∧ jumps ≤ 24 ∧ count ≤ 24 ∧ out.length ≤ 253 ∧ a' ≤ 2 ^ 30 ∧
    n = (25 - jumps) * (2 ^ 30 + 2) + (2 ^ 30 + 1 - a') + 1) ((25 - 0) * (2 ^ 30 + 2) + (2 ^ 30 + 1 - a) + 1) ⟨a, 0, 0, a, [], none, rfl, Fr.refl _ _, rfl, by omega, by omega, by simp, ha, rfl⟩ ?_
  rintro n ⟨at1, o7, c8, j9, e10, b11⟩ h1 ⟨a', count, jumps, bg, out, en, hst, f1, hnm, hj, hc24, hol, ha', hn⟩ Kn hK
  simp only [Prod.mk.injEq] at hst
  obtain ⟨rfl, rfl, rfl, rfl, rfl, rfl⟩ := hst
  unfold ref29_name_l1
  dsimp only
  rw [bs_size]
  refine ifD (fun e1 => ?_) fun e1 => ?_
  · rw [nameS_short (a := a') (by omega)] at hnm
    rw [hnm] at hk; exact hk h1 f1
  have hlt : a' < s.length := by omega
  have hbt := s[a'].toNat_lt
  have ebt : byteI s[a'] = (s[a'].toNat : Int) := rfl
  refine ixS s a' rfl hlt ?_
  rw [wr (x := byteI s[a']) (by omega) (by omega)]
  refine ifE (fun e2 => ?_) fun e2 => ?_
  · rw [nameS_end hlt (by omega)] at hnm
    have b2 : ∀ {z : Int}, z = ((en.getD (a' + 1) : Nat) : Int) → ref29_name_b2 (bs out) z Q Kn h1 := fun hz => by
      subst hz
      unfold ref29_name_b2
      rw [hnm] at hk
      exact rsmall_c out (by omega) fun h2 f2 => ⟨_, rfl, hk h2 (f1.trans f2)⟩
    rw [wr (x := (a' : Int) + 1) (by omega) (by omega)]
    refine ifD (fun e3 => b2 ?_) fun e3 => b2 ?_
    · cases en with
      | none => rfl
      | some y => exact absurd e3 (by show ¬ ((y : Int) < 0); omega)
    · cases en with
      | none => exact absurd (show enI none < 0 by decide) e3
      | some y => rfl
  refine ifD (fun e3 => ?_) fun e3 => ?_
  · rw [wr (x := (a' : Int) + 1) (by omega) (by omega)]
    refine ifD (fun e4 => ?_) fun e4 => ?_
    · rw [nameS_cut hlt (by omega) (by omega)] at hnm
      rw [hnm] at hk; exact hk h1 f1
    have hlt2 : a' + 1 < s.length := by omega
    rw [nameS_jump hlt (by omega) hlt2] at hnm
    have hbt2 := s[a' + 1].toNat_lt
    refine rnumber_c s a' 2 (by omega) (by omega) (by omega) (by omega) rfl ⟨_, rfl, by decide, ?_⟩
    have em : Int.tmod ((valB ((s.drop a').take 2) : Nat) : Int) 16384 = ((s[a'].toNat % 64 * 256 + s[a' + 1].toNat : Nat) : Int) := by
      rw [val2 s a' hlt2, Int.tmod_eq_emod_of_nonneg (by omega)]; omega
    rw [em]
    generalize htn : s[a'].toNat % 64 * 256 + s[a' + 1].toNat = tn at *
    have wj : wrap .i64 ((jumps : Int) + 1) = (jumps : Int) + 1 := wr (by omega) (by omega)
    rw [wj]
    have bad2 : (tn ≥ bg ∨ jumps + 1 > 24) → Q (.tuple #[.string (⟨#[]⟩ : ByteArray), .int .i64 0, .int .i64 2]) h1 := fun hbd => by
      rw [if_pos hbd] at hnm
      rw [hnm] at hk; exact hk h1 f1
    refine ifD (fun e5 => bad2 (.inl (by omega))) fun e5 => ifD (fun e6 => bad2 (.inr (by omega))) fun e6 => ?_
    rw [if_neg (by omega)] at hnm
    have b3 : ∀ {z : Int}, z = enI (some (en.getD (a' + 2))) → ref29_name_b3 (bs s) (bs out) (count : Int) ((jumps : Int) + 1) z (tn : Int) Q Kn h1 := fun hz => by
      unfold ref29_name_b3
      obtain ⟨q, hq⟩ : ∃ q, 25 - jumps = q + 1 := ⟨24 - jumps, by omega⟩
      have hq2 : 25 - (jumps + 1) = q := by omega
      have hmeas : (25 - (jumps + 1)) * (2 ^ 30 + 2) + (2 ^ 30 + 1 - tn) + 1 < n := by
        rw [hq2, hn, hq, Nat.succ_mul]
        generalize q * (2 ^ 30 + 2) = z
        omega
      exact hK _ _ _ hmeas ⟨tn, count, jumps + 1, tn, out, some (en.getD (a' + 2)), by rw [hz]; rfl, f1, hnm, by omega, hc24, hol, by omega, rfl⟩
    rw [wr (x := (a' : Int) + 2) (by omega) (by omega)]
    refine ifD (fun e7 => b3 ?_) fun e7 => b3 ?_
    · cases en with
      | none => rfl
      | some y => exact absurd e7 (by show ¬ ((y : Int) < 0); omega)
    · cases en with
      | none => exact absurd (show enI none < 0 by decide) e7
      | some y => rfl
  refine ifD (fun e4 => ?_) fun e4 => ?_
  · rw [nameS_bad hlt (by omega) (by omega)] at hnm
    rw [hnm] at hk; exact hk h1 f1
  rw [nameS_label hlt (by omega) (by omega)] at hnm
  have hlo : (lowL out).length = out.length := lowL_len out
  rw [hlo] at hnm
  -- a label, the point written
  have b4 : ∀ (o2 : Nm), o2.length = out.length + min out.length 1 → lowL o2 = (if lowL out = [] then [] else lowL out ++ [46]) → ref29_name_b4 (bs s) (a' : Int) (bs o2) (count : Int) (jumps : Int) (enI en) (bg : Int) (byteI s[a']) Q Kn h1 := fun o2 ho2 hlo2 => by
    unfold ref29_name_b4
    rw [wr (x := (count : Int) + 1) (by omega) (by omega), bs_size, wr (x := ((o2.length : Nat) : Int) + byteI s[a']) (by omega) (by omega)]
    have bad : (count + 1 > 24 ∨ out.length + min out.length 1 + s[a'].toNat > 253) → Q (.tuple #[.string (⟨#[]⟩ : ByteArray), .int .i64 0, .int .i64 2]) h1 := fun hbd => by
      rw [if_pos hbd] at hnm
      rw [hnm] at hk; exact hk h1 f1
    refine ifD (fun e5 => bad (.inl (by omega))) fun e5 => ifD (fun e6 => bad (.inr (by omega))) fun e6 => ?_
    rw [if_neg (by omega)] at hnm
    rw [ebt]
    generalize hm : s[a'].toNat = m at *
    refine LoopV.go (fun k st h' => ∃ i : Nat, st = ((i + 1 : Nat) : Int) ∧ i ≤ m ∧ k = m - i ∧ h' = h1 ∧ labelE s (a' + 1) m = labelE s (a' + 1 + i) (m - i)) m ⟨0, rfl, by omega, by omega, rfl, rfl⟩ ?_
    rintro k - h2 ⟨i, rfl, hi, rfl, hh, hle⟩ Kn5 hK5
    subst hh
    unfold ref29_name_l5
    refine ifD (fun e7 => ?_) fun e7 => ?_
    · obtain ⟨q, hq⟩ : ∃ q, m - i = q + 1 := ⟨m - i - 1, by omega⟩
      rw [hq, labelE_succ] at hle
      rw [wr (x := (a' : Int) + ((i + 1 : Nat) : Int)) (by omega) (by omega), bs_size]
      refine ifD (fun e8 => ?_) fun e8 => ?_
      · rw [dif_neg (by omega)] at hle
        rw [hle] at hnm
        rw [hnm] at hk; exact hk h2 f1
      · have hlt3 : a' + 1 + i < s.length := by omega
        rw [dif_pos hlt3] at hle
        refine ixS s (a' + 1 + i) (by omega) hlt3 (letter_c _ ⟨_, rfl, ifN (fun e9 => ?_) fun e9 => ?_⟩)
        · rw [if_neg (show ¬ letterB s[a' + 1 + i] = true by unfold letterB; rw [e9]; decide)] at hle
          rw [hle] at hnm
          rw [hnm] at hk; exact hk h2 f1
        · rw [if_pos (show letterB s[a' + 1 + i] = true from e9)] at hle
          refine hK5 (m - (i + 1)) _ _ (by omega) ⟨i + 1, by rw [wr (by omega) (by omega)]; omega, by omega, rfl, rfl, ?_⟩
          rw [hle, show m - (i + 1) = q by omega]; rfl
    · have him : i = m := by omega
      subst him
      rw [Nat.sub_self] at hle
      have hle : labelE s (a' + 1) i = none := hle
      rw [hle] at hnm
      have hlen := labelE_len hle (by omega)
      unfold ref29_name_b6
      have w1 : wrap .i64 ((a' : Int) + 1) = ((a' + 1 : Nat) : Int) := by rw [wr (by omega) (by omega)]; omega
      have w2 : wrap .i64 (((a' + 1 : Nat) : Int) + (i : Int)) = ((a' + 1 + i : Nat) : Int) := by rw [wr (by omega) (by omega)]; omega
      rw [w1, w2]
      refine slS s (a' + 1) (a' + 1 + i) rfl rfl (by omega) hlen ?_
      rw [Nat.add_sub_cancel_left, bs_size, bs_size, bs_append, imax]
      have htl : ((s.drop (a' + 1)).take i).length = i := by rw [List.length_take, List.length_drop]; omega
      refine ⟨by rw [htl]; omega, ?_⟩
      have q2 : (o2 ++ (s.drop (a' + 1)).take i).length ≤ 253 := by rw [List.length_append, htl]; omega
      have q3 : grow (lowL out) (lowL ((s.drop (a' + 1)).take i)) = lowL (o2 ++ (s.drop (a' + 1)).take i) := by
        unfold grow; rw [← hlo2]; unfold lowL; rw [List.map_append]
      rw [q3] at hnm
      have hm1 : 2 ^ 30 + 1 - (a' + 1 + i) < 2 ^ 30 + 1 - a' := by clear hn; omega
      have hmeas : (25 - jumps) * (2 ^ 30 + 2) + (2 ^ 30 + 1 - (a' + 1 + i)) + 1 < n := by rw [hn]; exact Nat.succ_lt_succ (Nat.add_lt_add_left hm1 _)
      refine hK _ _ _ hmeas ⟨a' + 1 + i, count + 1, jumps, bg, o2 ++ (s.drop (a' + 1)).take i, en, ?_, f1, hnm, hj, by omega, q2, by omega, rfl⟩
      have ec : ((count + 1 : Nat) : Int) = (count : Int) + 1 := by omega
      rw [ec]
  refine ifSn (m := []) (fun hne => ?_) fun he => ?_
  · rw [bs_size, imax]
    have e46 : (⟨#[46]⟩ : ByteArray) = bs [46] := rfl
    rw [e46, bs_append, bs_size]
    refine ⟨by simp; omega, b4 _ ?_ ?_⟩
    · have : 0 < out.length := List.length_pos_iff.2 hne
      simp; omega
    · rw [if_neg (fun h => hne (by have := congrArg List.length h; rw [hlo] at this; exact List.length_eq_zero_iff.1 this))]
      unfold lowL; rw [List.map_append]; rfl
  · subst he
    exact b4 [] rfl rfl
end Go.Proofs.YtmjbcnbjedipdaaDoor
/-!
  Messages: what they are; the reference's reading of questions and records.
-/
namespace Go.Proofs.YtmjbcnbjedipdaaDoor
set_option linter.unusedSimpArgs false
set_option linter.unusedVariables false
set_option maxRecDepth 20000
open Go
open Go.IntKind (wrap)
attribute [local irreducible] Addr.add stN st1 idxA idxS alV sliceStr LoopV
theorem nameS_inv (s : Nm) (I : Nat → Nat → Nm → Option Nat → Prop)
    (hl : ∀ (a count : Nat) (out : Nm) (en : Option Nat) (h : a < s.length), I a count out en → s[a].toNat ≠ 0 → s[a].toNat < 64 → count + 1 ≤ 24 → out.length + min out.length 1 + s[a].toNat ≤ 253 → labelE s (a + 1) s[a].toNat = none → I (a + 1 + s[a].toNat) (count + 1) (grow out (lowL ((s.drop (a + 1)).take s[a].toNat))) en)
    (hj : ∀ (a count : Nat) (out : Nm) (en : Option Nat) (t : Nat) (_ : a + 1 < s.length), I a count out en → I t count out (some (en.getD (a + 2)))) :
    ∀ (a bg j count : Nat) (out : Nm) (en : Option Nat) {n : Nm} {e : Nat}, I a count out en → nameS s a bg j count out en = .ok n e → ∃ a' count' en', a' < s.length ∧ I a' count' n en' ∧ e = Option.getD en' (a' + 1) := by
  intro a bg j count out en n e hi h
  by_cases hlt : a < s.length
  · by_cases h0 : s[a].toNat = 0
    · rw [nameS_end hlt h0] at h
      cases h
      exact ⟨a, count, en, hlt, hi, rfl⟩
    · by_cases h1 : s[a].toNat < 64
      · rw [nameS_label hlt h0 h1] at h
        by_cases hc : count + 1 > 24 ∨ out.length + min out.length 1 + s[a].toNat > 253
        · rw [if_pos hc] at h; cases h
        · rw [if_neg hc] at h
          cases hle : labelE s (a + 1) s[a].toNat with
          | some k => rw [hle] at h; cases h
          | none =>
            rw [hle] at h
            have h : nameS s (a + 1 + s[a].toNat) bg j (count + 1) (grow out (lowL ((s.drop (a + 1)).take s[a].toNat))) en = .ok n e := h
            exact nameS_inv s I hl hj _ bg j _ _ _ (hl a count out en hlt hi h0 h1 (by omega) (by omega) hle) h
      · by_cases h2 : s[a].toNat < 192
        · rw [nameS_bad hlt h1 h2] at h; cases h
        · by_cases h3 : a + 1 < s.length
          · rw [nameS_jump hlt h2 h3] at h
            by_cases hc : s[a].toNat % 64 * 256 + s[a + 1].toNat ≥ bg ∨ j + 1 > 24
            · rw [if_pos hc] at h; cases h
            · rw [if_neg hc] at h
              exact nameS_inv s I hl hj _ _ (j + 1) _ _ _ (hj a count out en _ h3 hi) h
          · rw [nameS_cut hlt h2 h3] at h; cases h
  · rw [nameS_short hlt] at h; cases h
termination_by a _ j => (25 - j, s.length - a)
decreasing_by
  · exact Prod.Lex.right _ (by omega)
  · exact Prod.Lex.left _ _ (by omega)
theorem nameS_err (s : Nm) : ∀ (a bg j count : Nat) (out : Nm) (en : Option Nat) {k : Int}, nameS s a bg j count out en = .err k → k ≠ 0 := by
  intro a bg j count out en k h
  by_cases hlt : a < s.length
  · by_cases h0 : s[a].toNat = 0
    · rw [nameS_end hlt h0] at h
      cases h
    · by_cases h1 : s[a].toNat < 64
      · rw [nameS_label hlt h0 h1] at h
        by_cases hc : count + 1 > 24 ∨ out.length + min out.length 1 + s[a].toNat > 253
        · rw [if_pos hc] at h; cases h; decide
        · rw [if_neg hc] at h
          cases hle : labelE s (a + 1) s[a].toNat with
          | some k => rw [hle] at h; cases h; exact labelE_ne hle
          | none =>
            rw [hle] at h
            have h : nameS s (a + 1 + s[a].toNat) bg j (count + 1) (grow out (lowL ((s.drop (a + 1)).take s[a].toNat))) en = .err k := h
            exact nameS_err s _ bg j _ _ _ h
      · by_cases h2 : s[a].toNat < 192
        · rw [nameS_bad hlt h1 h2] at h; cases h; decide
        · by_cases h3 : a + 1 < s.length
          · rw [nameS_jump hlt h2 h3] at h
            by_cases hc : s[a].toNat % 64 * 256 + s[a + 1].toNat ≥ bg ∨ j + 1 > 24
            · rw [if_pos hc] at h; cases h; decide
            · rw [if_neg hc] at h
              exact nameS_err s _ _ (j + 1) _ _ _ h
          · rw [nameS_cut hlt h2 h3] at h; cases h; decide
  · rw [nameS_short hlt] at h; cases h; decide
termination_by a _ j => (25 - j, s.length - a)
decreasing_by
  · exact Prod.Lex.right _ (by omega)
  · exact Prod.Lex.left _ _ (by omega)
def nm (s : Nm) (a : Nat) : NRes := nameS s a a 0 0 [] none
theorem nm_le {s : Nm} {a : Nat} {n : Nm} {e : Nat} (h : nm s a = .ok n e) : e ≤ s.length := by
  obtain ⟨a', _, en, h1, h2, h3⟩ := nameS_inv s (fun _ _ _ en => ∀ x, en = some x → x ≤ s.length) (fun _ _ _ _ _ hi _ _ _ _ _ => hi) (fun a _ _ en _ h hi x hx => by
    cases hx
    cases en with
    | none => show a + 2 ≤ _; omega
    | some y => exact hi y rfl) a a 0 0 [] none (fun _ h => by cases h) h
  subst h3
  cases en with
  | none => show a' + 1 ≤ _; omega
  | some y => exact h2 y rfl
theorem nm_len {s : Nm} {a : Nat} {n : Nm} {e : Nat} (h : nm s a = .ok n e) : n.length ≤ 253 := by
  obtain ⟨a', _, en, h1, h2, h3⟩ := nameS_inv s (fun _ _ n _ => n.length ≤ 253) (fun a _ out _ h hi _ _ _ hl hle => by
    have ht : (lowL ((s.drop (a + 1)).take s[a].toNat)).length ≤ s[a].toNat := by rw [lowL_len, List.length_take]; omega
    unfold grow
    rw [List.length_append]
    split
    · simp; omega
    · rename_i hne
      have : 0 < out.length := List.length_pos_iff.2 hne
      simp; omega) (fun _ _ _ _ _ _ hi => hi) a a 0 0 [] none (by simp) h
  exact h2
inductive Rs (α : Type)
  | err (e : Int)
  | ok (x : α) (p : Nat)
def num (s : Nm) (a k : Nat) : Nat := valB ((s.drop a).take k)
theorem num_lt (s : Nm) (a k : Nat) : num s a k < 256 ^ k := by
  have h1 := valF_lt ((s.drop a).take k) 0
  have h2 : (256 : Nat) ^ ((s.drop a).take k).length ≤ 256 ^ k := Nat.pow_le_pow_right (by omega) (by rw [List.length_take]; omega)
  unfold num valB; omega
theorem num2_lt (s : Nm) (a : Nat) : num s a 2 < 65536 := num_lt s a 2
theorem num4_lt (s : Nm) (a : Nat) : num s a 4 < 4294967296 := num_lt s a 4
abbrev Qu := S_api_DnsQuestion
abbrev Re := S_api_DnsRecord
def questionS (s : Nm) (a : Nat) : Rs Qu :=
  match nm s a with
  | .err k => .err k
  | .ok n en => if en + 4 > s.length then .err 1 else if num s (en + 2) 2 ≠ 1 then .err 2 else .ok ⟨n, num s en 2⟩ (en + 4)
def skipI (k : Int) : Int := if k = 2 ∨ k = 5 ∨ k = 12 then 0 else if k = 15 then 2 else -1
def recordS (s : Nm) (a : Nat) : Rs Re :=
  match questionS s a with
  | .err k => .err k
  | .ok q p => if p + 6 > s.length then .err 1 else if p + 6 + num s (p + 4) 2 > s.length then .err 1
    else if skipI q.Type_ < 0 then .ok ⟨q.Name, q.Type_, num s p 4, (s.drop (p + 6)).take (num s (p + 4) 2)⟩ (p + 6 + num s (p + 4) 2)
    else if p + 6 + (skipI q.Type_).toNat > s.length then .err 1
    else match nm s (p + 6 + (skipI q.Type_).toNat) with
      | .err e => .err e
      | .ok m en => if en ≠ p + 6 + num s (p + 4) 2 then .err 2 else .ok ⟨q.Name, q.Type_, num s p 4, (s.drop (p + 6)).take (skipI q.Type_).toNat ++ m⟩ (p + 6 + num s (p + 4) 2)
def manyS {α : Type} (f : Nat → Rs α) : Nat → Nat → Rs (List α)
  | 0, a => .ok [] a
  | k + 1, a => match f a with
    | .err e => .err e
    | .ok x p => match manyS f k p with
      | .err e => .err e
      | .ok l q => .ok (x :: l) q
def pre {α : Type} (acc : List α) : Rs (List α) → Rs (List α)
  | .err e => .err e
  | .ok l q => .ok (acc ++ l) q
theorem pre_nil {α : Type} (r : Rs (List α)) : pre [] r = r := by cases r <;> rfl
theorem pre_many {α : Type} (f : Nat → Rs α) (acc : List α) (k a : Nat) : pre acc (manyS f (k + 1) a) = match f a with
    | .err e => .err e
    | .ok x p => pre (acc ++ [x]) (manyS f k p) := by
  show pre acc (match f a with | .err e => .err e | .ok x p => match manyS f k p with | .err e => .err e | .ok l q => .ok (x :: l) q) = _
  cases f a with
  | err e => rfl
  | ok x p =>
    simp only
    cases manyS f k p with
    | err e => rfl
    | ok l q => simp [pre]
structure Msg where
  Id : Int
  Flags : Int
  qs : List Qu
  rs : List Re
def emptyM : Msg := ⟨0, 0, [], []⟩
def decodeS (s : Nm) : Rs Msg :=
  if s.length < 12 then .err 1
  else if num s 4 2 > 8 ∨ num s 6 2 + num s 8 2 + num s 10 2 > 32 then .err 3
  else match manyS (questionS s) (num s 4 2) 12 with
    | .err e => .err e
    | .ok qs p => match manyS (recordS s) (num s 6 2 + num s 8 2 + num s 10 2) p with
      | .err e => .err e
      | .ok rs q => if q ≠ s.length then .err 2 else .ok ⟨num s 0 2, num s 2 2, qs, rs⟩ q
def decS (s : Nm) : Int × Msg := match decodeS s with
  | .err e => (e, emptyM)
  | .ok m _ => (0, m)
theorem questionS_err {s : Nm} {a : Nat} {k : Int} (h : questionS s a = .err k) : k ≠ 0 := by
  unfold questionS at h
  cases hn : nm s a with
  | err e => rw [hn] at h; cases h; exact nameS_err s _ _ _ _ _ _ hn
  | ok n en =>
    rw [hn] at h
    simp only at h
    split at h
    · cases h; decide
    · split at h
      · cases h; decide
      · cases h
theorem questionS_le {s : Nm} {a : Nat} {q : Qu} {p : Nat} (h : questionS s a = .ok q p) : p ≤ s.length ∧ q.Name.length ≤ 253 ∧ 0 ≤ q.Type_ ∧ q.Type_ < 65536 := by
  unfold questionS at h
  cases hn : nm s a with
  | err e => rw [hn] at h; cases h
  | ok n en =>
    rw [hn] at h
    simp only at h
    split at h
    · cases h
    · split at h
      · cases h
      · cases h
        have := num2_lt s en
        exact ⟨by omega, nm_len hn, by simp only; omega, by simp only; omega⟩
theorem recordS_err {s : Nm} {a : Nat} {k : Int} (h : recordS s a = .err k) : k ≠ 0 := by
  unfold recordS at h
  cases hq : questionS s a with
  | err e => rw [hq] at h; cases h; exact questionS_err hq
  | ok q p =>
    rw [hq] at h
    simp only at h
    split at h
    · cases h; decide
    split at h
    · cases h; decide
    split at h
    · cases h
    split at h
    · cases h; decide
    split at h
    · rename_i e hn; cases h; exact nameS_err s _ _ _ _ _ _ hn
    · split at h
      · cases h; decide
      · cases h
theorem recordS_le {s : Nm} {a : Nat} {r : Re} {p : Nat} (h : recordS s a = .ok r p) : p ≤ s.length := by
  unfold recordS at h
  cases hq : questionS s a with
  | err e => rw [hq] at h; cases h
  | ok q p =>
    rw [hq] at h
    simp only at h
    split at h
    · cases h
    split at h
    · cases h
    split at h
    · cases h; omega
    split at h
    · cases h
    split at h
    · cases h
    · split at h
      · cases h
      · cases h; omega
/-! ### The reference -/
def resQ : Rs Qu → Value
  | .err k => .tuple #[.agg #[.string (bs []), .int .i64 0], .int .i64 0, .int .i64 k]
  | .ok q p => .tuple #[.agg #[.string (bs q.Name), .int .i64 q.Type_], .int .i64 p, .int .i64 0]
theorem rquestion_c [Gh] (s : Nm) (hs : s.length ≤ 2 ^ 28) (a : Nat) (ha : a ≤ 2 ^ 30) {x : Int} (hx : x = a) {h : Heap} {Q : Value → Heap → Prop} (hk : ∀ h', Fr (fun _ => False) h h' → Q (resQ (questionS s a)) h') :
    CallT Tryd.prog fn_ref29_question #[.string (bs s), .int .i64 x] h Q := by
  apply ref29_question_s
  unfold ref29_question_v
  refine al_H (Hs.pure h) fun t4 h1 H l4 => ?_
  refine rname_c s hs a ha hx fun h2 f2 => ?_
  have H := H.call0 f2
  have he : nameS s a a 0 0 [] none = nm s a := rfl
  rw [he]
  unfold questionS at hk
  have out : ∀ {h3 : Heap} {L : List Blk} (H : Hs h (fun _ => False) h3 ((t4, [.string (bs []), .int .i64 0], T_api_DnsQuestion) :: L)) {k : Int}, (∀ h', Fr (fun _ => False) h h' → Q (resQ (.err k)) h') → stN h3 t4 [.string (⟨#[]⟩ : ByteArray), .int .i64 0] 0 fun h3 => ldS h3 t4 fun r0_0 => ldI h3 (Addr.add t4 1) .i64 fun r0_1 => Q (.tuple #[.agg #[.string r0_0, .int .i64 r0_1], .int .i64 0, .int .i64 k]) h3 := by
    intro h3 L H k hq
    refine stN_H H 0 rfl (by rfl) (by rfl) fun h4 H => ?_
    have C0 := (H.get 0 rfl).cells; repeat (first | (first | refine ldI_mk (by first | exact C0.at rfl | exact C0.at0 rfl) ?_ | refine ldB_mk (by first | exact C0.at rfl | exact C0.at0 rfl) ?_ | refine ldL_mk (by first | exact C0.at rfl | exact C0.at0 rfl) ?_ | refine ldP_mk (by first | exact C0.at rfl | exact C0.at0 rfl) ?_ | refine ldS_mk (by first | exact C0.at rfl | exact C0.at0 rfl) ?_ | refine ldM_mk (by first | exact C0.at rfl | exact C0.at0 rfl) ?_) | refine nn_mk ?_ | refine And.intro (by (repeat (first | refine ldI_mk (by first | exact C0.at rfl | exact C0.at0 rfl) ?_ | refine ldB_mk (by first | exact C0.at rfl | exact C0.at0 rfl) ?_ | refine ldL_mk (by first | exact C0.at rfl | exact C0.at0 rfl) ?_ | refine ldP_mk (by first | exact C0.at rfl | exact C0.at0 rfl) ?_ | refine ldS_mk (by first | exact C0.at rfl | exact C0.at0 rfl) ?_ | refine ldM_mk (by first | exact C0.at rfl | exact C0.at0 rfl) ?_)); exact rfl) ?_ | refine ifNS ?_ | refine And.intro (by decide) ?_)
    exact hq h4 H.fr0
  cases hn : nm s a with
  | err k =>
    rw [hn] at hk
    refine ⟨_, _, _, rfl, ?_⟩
    have hk0 := nameS_err s _ _ _ _ _ _ hn
    refine ifNe (fun _ => ?_) fun h => absurd h hk0
    exact out H hk
  | ok n en =>
    rw [hn] at hk
    have hen := nm_le hn
    refine ⟨_, _, _, rfl, ?_⟩
    refine ifNe (fun h => absurd rfl h) fun _ => ?_
    simp only at hk
    rw [wr (x := (en : Int) + 2) (by omega) (by omega), wr (x := (en : Int) + 4) (by omega) (by omega), bs_size]
    by_cases h4 : en + 4 > s.length
    · rw [if_pos h4] at hk
      exact ifD (fun _ => out H hk) fun _ => ifD (fun _ => out H hk) fun h => absurd h4 (by omega)
    rw [if_neg h4] at hk
    refine ifD (fun h => absurd h (by omega)) fun _ => ifD (fun h => absurd h (by omega)) fun _ => ?_
    refine rnumber_c s (en + 2) 2 (by omega) (by omega) (by omega) (by omega) (by omega) ⟨_, rfl, ?_⟩
    refine ifNe (fun h5 => ?_) fun h5 => ?_
    · rw [if_pos (by unfold num; omega)] at hk
      exact out H hk
    · rw [if_neg (by unfold num; omega)] at hk
      refine rnumber_c s en 2 (by omega) (by omega) (by omega) (by omega) rfl ⟨_, rfl, ?_⟩
      refine stN_H H 0 rfl (by rfl) (by rfl) fun h4 H => ?_
      have C0 := (H.get 0 rfl).cells; repeat (first | (first | refine ldI_mk (by first | exact C0.at rfl | exact C0.at0 rfl) ?_ | refine ldB_mk (by first | exact C0.at rfl | exact C0.at0 rfl) ?_ | refine ldL_mk (by first | exact C0.at rfl | exact C0.at0 rfl) ?_ | refine ldP_mk (by first | exact C0.at rfl | exact C0.at0 rfl) ?_ | refine ldS_mk (by first | exact C0.at rfl | exact C0.at0 rfl) ?_ | refine ldM_mk (by first | exact C0.at rfl | exact C0.at0 rfl) ?_) | refine nn_mk ?_ | refine And.intro (by (repeat (first | refine ldI_mk (by first | exact C0.at rfl | exact C0.at0 rfl) ?_ | refine ldB_mk (by first | exact C0.at rfl | exact C0.at0 rfl) ?_ | refine ldL_mk (by first | exact C0.at rfl | exact C0.at0 rfl) ?_ | refine ldP_mk (by first | exact C0.at rfl | exact C0.at0 rfl) ?_ | refine ldS_mk (by first | exact C0.at rfl | exact C0.at0 rfl) ?_ | refine ldM_mk (by first | exact C0.at rfl | exact C0.at0 rfl) ?_)); exact rfl) ?_ | refine ifNS ?_ | refine And.intro (by decide) ?_)
      have := hk h4 H.fr0
      unfold resQ num at this
      exact this
theorem named_c [Gh] (k : Int) {h : Heap} {Q : Value → Heap → Prop} (hk : Q (.int .i64 (skipI k)) h) : CallT Tryd.prog fn_ref29_named #[.int .i64 k] h Q := by
  apply ref29_named_s
  unfold ref29_named_v
  unfold skipI at hk
  repeat' (first | refine ifE (fun e => ?_) fun e => ?_)
  all_goals (refine Qeq hk ?_; congr 1; split <;> (try split) <;> omega)
def resR : Rs Re → Value
  | .err k => .tuple #[.agg #[.string (bs []), .int .i64 0, .int .i64 0, .string (bs [])], .int .i64 0, .int .i64 k]
  | .ok q p => .tuple #[.agg #[.string (bs q.Name), .int .i64 q.Type_, .int .i64 q.Ttl, .string (bs q.Data)], .int .i64 p, .int .i64 0]
theorem rrecord_c [Gh] (s : Nm) (hs : s.length ≤ 2 ^ 28) (a : Nat) (ha : a ≤ 2 ^ 30) {x : Int} (hx : x = a) {h : Heap} {Q : Value → Heap → Prop} (hk : ∀ h', Fr (fun _ => False) h h' → Q (resR (recordS s a)) h') :
    CallT Tryd.prog fn_ref29_record #[.string (bs s), .int .i64 x] h Q := by
  apply ref29_record_s
  unfold ref29_record_v
  refine al_H (Hs.pure h) fun t4 h1 H l4 => ?_
  refine rquestion_c s hs a ha hx fun h2 f2 => ?_
  have H := H.call0 f2
  unfold recordS at hk
  have out : ∀ {h3 : Heap} {L : List Blk} (H : Hs h (fun _ => False) h3 L) {i : Nat} (_ : L[i]? = some (t4, [.string (bs []), .int .i64 0, .int .i64 0, .string (bs [])], T_api_DnsRecord)) {k : Int}, (∀ h', Fr (fun _ => False) h h' → Q (resR (.err k)) h') → stN h3 t4 [.string (⟨#[]⟩ : ByteArray), .int .i64 0, .int .i64 0, .string (⟨#[]⟩ : ByteArray)] 0 fun h5 => ldS h5 t4 fun r0_0 => ldI h5 (Addr.add t4 1) .i64 fun r0_1 => ldI h5 (Addr.add t4 2) .i64 fun r0_2 => ldS h5 (Addr.add t4 3) fun r0_3 => Q (.tuple #[.agg #[.string r0_0, .int .i64 r0_1, .int .i64 r0_2, .string r0_3], .int .i64 0, .int .i64 k]) h5 := by
    intro h3 L H i hi k hq
    refine stN_own (H.get i hi) (ws := [.string (bs []), .int .i64 0, .int .i64 0, .string (bs [])]) (by rfl) (by rfl) fun h4 f4 _ o4 => ?_
    have c := o4.cells
    refine ldS_mk (c.at0 rfl) (ldI_mk (c.at (j := 1) rfl) (ldI_mk (c.at (j := 2) rfl) (ldS_mk (c.at (j := 3) rfl) ?_)))
    exact hq h4 (H.fr0.tr f4 fun b hb hb' => by omega)
  cases hq : questionS s a with
  | err k =>
    rw [hq] at hk
    refine ⟨_, _, _, _, rfl, ?_⟩
    have hk0 := questionS_err hq
    refine al_H H fun t7 h3 H l7 => ?_
    refine stN_H H 0 rfl (by rfl) (by rfl) fun h4 H => ?_
    refine ifNe (fun _ => ?_) fun h => absurd h hk0
    exact out H (i := 1) rfl hk
  | ok q p =>
    rw [hq] at hk
    obtain ⟨hp, hql, hty0, hty1⟩ := questionS_le hq
    refine ⟨_, _, _, _, rfl, ?_⟩
    refine al_H H fun t7 h3 H l7 => ?_
    refine stN_H H 0 rfl (by rfl) (by rfl) fun h4 H => ?_
    refine ifNe (fun h => absurd rfl h) fun _ => ?_
    simp only at hk
    have w4 : wrap .i64 ((p : Int) + 4) = ((p + 4 : Nat) : Int) := by rw [wr (by omega) (by omega)]; omega
    have w6 : wrap .i64 ((p : Int) + 6) = ((p + 6 : Nat) : Int) := by rw [wr (by omega) (by omega)]; omega
    rw [w4, w6, bs_size]
    have b2 : ∀ {h5 : Heap} {L : List Blk} (H : Hs h (fun _ => False) h5 L) {i : Nat} (_ : L[i]? = some (t4, [.string (bs []), .int .i64 0, .int .i64 0, .string (bs [])], T_api_DnsRecord)), (∀ h', Fr (fun _ => False) h h' → Q (resR (.err 1)) h') → ref29_record_b2 t4 Q h5 := by
      intro h5 L H i hi hq
      unfold ref29_record_b2; exact out H hi hq
    refine ifD (fun h6 => ?_) fun h6 => ?_
    · rw [if_pos (by omega)] at hk
      exact b2 H (i := 1) rfl hk
    rw [if_neg (by omega)] at hk
    have hnl := num2_lt s (p + 4)
    refine rnumber_c s (p + 4) 2 (by omega) (by omega) (by omega) (by omega) rfl ⟨_, rfl, ?_⟩
    have hnn : valB ((s.drop (p + 4)).take 2) = num s (p + 4) 2 := rfl
    rw [hnn]
    generalize hn : num s (p + 4) 2 = n at *
    have wn : wrap .i64 (((p + 6 : Nat) : Int) + (n : Int)) = ((p + 6 + n : Nat) : Int) := by rw [wr (by omega) (by omega)]; omega
    rw [wn]
    refine ifD (fun h7 => ?_) fun h7 => ?_
    · rw [if_pos (by omega)] at hk
      exact b2 H (i := 1) rfl hk
    rw [if_neg (by omega)] at hk
    have b1 : ∀ {h9 : Heap} {L : List Blk} {t9 : Addr} {n4 : Int}, n4 = (num s p 4 : Int) → Hs h (fun _ => False) h9 ((t9, [.string (bs q.Name), .int .i64 q.Type_, .int .i64 n4, .string (bs [])], T_api_DnsRecord) :: L) → ∀ {i : Nat}, L[i]? = some (t4, [.string (bs []), .int .i64 0, .int .i64 0, .string (bs [])], T_api_DnsRecord) → ref29_record_b1 (bs s) (p : Int) t4 t9 ((p + 6 : Nat) : Int) Q h9 := by
      intro h9 L t9 n4 hn4 H i hi
      subst hn4
      unfold ref29_record_b1
      rw [w4]
      refine rnumber_c s (p + 4) 2 (by omega) (by omega) (by omega) (by omega) rfl ⟨_, rfl, ?_⟩
      have hnn2 : valB ((s.drop (p + 4)).take 2) = n := hn
      rw [hnn2, wn]
      have C0 := (H.get 0 rfl).cells; repeat (first | (first | refine ldI_mk (by first | exact C0.at rfl | exact C0.at0 rfl) ?_ | refine ldB_mk (by first | exact C0.at rfl | exact C0.at0 rfl) ?_ | refine ldL_mk (by first | exact C0.at rfl | exact C0.at0 rfl) ?_ | refine ldP_mk (by first | exact C0.at rfl | exact C0.at0 rfl) ?_ | refine ldS_mk (by first | exact C0.at rfl | exact C0.at0 rfl) ?_ | refine ldM_mk (by first | exact C0.at rfl | exact C0.at0 rfl) ?_) | refine nn_mk ?_ | refine And.intro (by (repeat (first | refine ldI_mk (by first | exact C0.at rfl | exact C0.at0 rfl) ?_ | refine ldB_mk (by first | exact C0.at rfl | exact C0.at0 rfl) ?_ | refine ldL_mk (by first | exact C0.at rfl | exact C0.at0 rfl) ?_ | refine ldP_mk (by first | exact C0.at rfl | exact C0.at0 rfl) ?_ | refine ldS_mk (by first | exact C0.at rfl | exact C0.at0 rfl) ?_ | refine ldM_mk (by first | exact C0.at rfl | exact C0.at0 rfl) ?_)); exact rfl) ?_ | refine ifNS ?_ | refine And.intro (by decide) ?_)
      refine named_c q.Type_ ⟨_, rfl, ?_⟩
      have hsk : skipI q.Type_ = -1 ∨ skipI q.Type_ = 0 ∨ skipI q.Type_ = 2 := by unfold skipI; split <;> (try split) <;> omega
      generalize skipI q.Type_ = sk at *
      have ok : ∀ {h5 : Heap} {D : Nm}, Hs h (fun _ => False) h5 ((t9, [.string (bs q.Name), .int .i64 q.Type_, .int .i64 (num s p 4 : Int), .string (bs [])], T_api_DnsRecord) :: L) → (∀ h', Fr (fun _ => False) h h' → Q (resR (.ok ⟨q.Name, q.Type_, num s p 4, D⟩ (p + 6 + n))) h') → st1 h5 (Addr.add t9 3) (.string (bs D)) fun h16 => ldS h16 t9 fun t70_0 => ldI h16 (Addr.add t9 1) .i64 fun t70_1 => ldI h16 (Addr.add t9 2) .i64 fun t70_2 => ldS h16 (Addr.add t9 3) fun t70_3 => stN h16 t4 [.string t70_0, .int .i64 t70_1, .int .i64 t70_2, .string t70_3] 0 fun h17 => ldS h17 t4 fun r0_0 => ldI h17 (Addr.add t4 1) .i64 fun r0_1 => ldI h17 (Addr.add t4 2) .i64 fun r0_2 => ldS h17 (Addr.add t4 3) fun r0_3 => Q (.tuple #[.agg #[.string r0_0, .int .i64 r0_1, .int .i64 r0_2, .string r0_3], .int .i64 ((p + 6 + n : Nat) : Int), .int .i64 0]) h17 := by
        intro h5 D H hq
        refine st1_H H 0 rfl (by rfl) rfl fun h6 H => ?_
        have c := (H.get 0 rfl).cells
        refine ldS_mk (c.at0 rfl) (ldI_mk (c.at (j := 1) rfl) (ldI_mk (c.at (j := 2) rfl) (ldS_mk (c.at (j := 3) rfl) ?_)))
        have o4 := H.get (i + 1) hi
        refine stN_own o4 (ws := [.string (bs q.Name), .int .i64 q.Type_, .int .i64 (num s p 4 : Int), .string (bs D)]) (by rfl) (by rfl) fun h7 f7 _ o7 => ?_
        have c := o7.cells
        refine ldS_mk (c.at0 rfl) (ldI_mk (c.at (j := 1) rfl) (ldI_mk (c.at (j := 2) rfl) (ldS_mk (c.at (j := 3) rfl) ?_)))
        exact hq h7 (H.fr0.tr f7 fun b hb hb' => by omega)
      refine ifD (fun h8 => ?_) fun h8 => ?_
      · rw [if_pos h8] at hk
        refine slS s (p + 6) (p + 6 + n) rfl rfl (by omega) (by omega) ?_
        rw [Nat.add_sub_cancel_left]
        exact ok H hk
      · rw [if_neg h8] at hk
        have wk : wrap .i64 (((p + 6 : Nat) : Int) + sk) = ((p + 6 + sk.toNat : Nat) : Int) := by rw [wr (by omega) (by omega)]; omega
        rw [wk, bs_size]
        refine ifD (fun h10 => ?_) fun h10 => ?_
        · rw [if_pos (by omega)] at hk
          exact out H (i := i + 1) hi hk
        rw [if_neg (by omega)] at hk
        refine rname_c s hs (p + 6 + sk.toNat) (by omega) rfl fun h11 f11 => ?_
        have H := H.call0 f11
        have he : nameS s (p + 6 + sk.toNat) (p + 6 + sk.toNat) 0 0 [] none = nm s (p + 6 + sk.toNat) := rfl
        rw [he]
        cases hnm : nm s (p + 6 + sk.toNat) with
        | err k =>
          rw [hnm] at hk
          refine ⟨_, _, _, rfl, ?_⟩
          have hk0 := nameS_err s _ _ _ _ _ _ hnm
          refine ifNe (fun _ => ?_) fun h => absurd h hk0
          exact out H (i := i + 1) hi hk
        | ok m en =>
          rw [hnm] at hk
          simp only at hk
          refine ⟨_, _, _, rfl, ?_⟩
          refine ifNe (fun h => absurd rfl h) fun _ => ?_
          refine ifNe (fun h12 => ?_) fun h12 => ?_
          · rw [if_pos (by omega)] at hk
            exact out H (i := i + 1) hi hk
          rw [if_neg (by omega)] at hk
          refine slS s (p + 6) (p + 6 + sk.toNat) rfl rfl (by omega) (by omega) ?_
          rw [Nat.add_sub_cancel_left, bs_size, bs_size, bs_append, imax]
          have hml := nm_len hnm
          refine ⟨by have : ((s.drop (p + 6)).take sk.toNat).length ≤ sk.toNat := by { rw [List.length_take]; omega }
                     omega, ?_⟩
          exact ok H hk
    have c7 := (H.get 0 rfl).cells
    refine ldS_mk (c7.at0 rfl) (ldI_mk (c7.at (j := 1) rfl) ⟨?_, ?_⟩)
    · refine rnumber_c s p 4 (by omega) (by omega) (by omega) (by omega) rfl ⟨_, rfl, ldS_mk (c7.at0 rfl) rfl, ldI_mk (c7.at (j := 1) rfl) rfl, ?_⟩
      refine al_H H fun t9 h8 H l9 => ?_
      have c7 := (H.get 1 rfl).cells
      refine ⟨ldS_mk (c7.at0 rfl) rfl, ldI_mk (c7.at (j := 1) rfl) rfl, ?_⟩
      refine stN_H H 0 rfl (by rfl) (by rfl) fun h9 H => ?_
      exact b1 rfl H (i := 1) rfl
    · refine al_H H fun t9 h8 H l9 => ?_
      have c7 := (H.get 1 rfl).cells
      refine ⟨ldS_mk (c7.at0 rfl) rfl, ldI_mk (c7.at (j := 1) rfl) rfl, ?_⟩
      refine rnumber_c s p 4 (by omega) (by omega) (by omega) (by omega) rfl ⟨_, rfl, ldS_mk (c7.at0 rfl) rfl, ldI_mk (c7.at (j := 1) rfl) rfl, ?_⟩
      refine stN_H H 0 rfl (by rfl) (by rfl) fun h9 H => ?_
      exact b1 rfl H (i := 1) rfl
end Go.Proofs.YtmjbcnbjedipdaaDoor
/-!
  A message under construction; the reference's Decode.
-/
namespace Go.Proofs.YtmjbcnbjedipdaaDoor
set_option linter.unusedSimpArgs false
set_option linter.unusedVariables false
set_option maxRecDepth 20000
open Go
open Go.IntKind (wrap)
theorem qu_len (q : Qu) : q.vals.length = 2 := rfl
theorem re_len (q : Re) : q.vals.length = 4 := rfl
theorem el_qu : ElemT Tryd.prog T_sl_api_DnsQuestion T_api_DnsQuestion Tryd.t47 (.agg #[.string ⟨#[]⟩, .int .i64 0]) := ⟨Tryd.underlying24, by kernel_rfl, by kernel_rfl, by kernel_rfl, by decide +kernel⟩
theorem el_re : ElemT Tryd.prog T_sl_api_DnsRecord T_api_DnsRecord Tryd.t49 (.agg #[.string ⟨#[]⟩, .int .i64 0, .int .i64 0, .string ⟨#[]⟩]) := ⟨Tryd.underlying25, by kernel_rfl, by kernel_rfl, by kernel_rfl, by decide +kernel⟩
theorem appQ [Gh] {h : Heap} {p : Option Addr} {cap : Nat} {L : List Qu} (R : Row 2 S_api_DnsQuestion.vals h p cap L) {e : Qu} {b : Addr} {T : TypeId} (ob : Own h b e.vals T) (hl : L.length ≤ 2 ^ 29) {K : Value → Heap → Prop}
    (hk : ∀ p' cap' h', Row 2 S_api_DnsQuestion.vals h' p' cap' (L ++ [e]) → Fr (InA p) h h' → (∀ b, InA p' b → InA p b ∨ h.size ≤ b) → K (.slice p' (L ++ [e]).length cap') h') :
    bltV Tryd.prog .append #[T_sl_api_DnsQuestion, T_sl_api_DnsQuestion] T_sl_api_DnsQuestion #[false, false] #[.slice p L.length cap, .slice (some b) 1 1] h K :=
  R.app el_qu Tryd.underlying24 (by intro k e; cases e) (by kernel_rfl) (by decide +kernel) qu_len (fun _ => rfl) ob 1 hl hk
theorem appR [Gh] {h : Heap} {p : Option Addr} {cap : Nat} {L : List Re} (R : Row 4 S_api_DnsRecord.vals h p cap L) {e : Re} {b : Addr} {T : TypeId} (ob : Own h b e.vals T) (hl : L.length ≤ 2 ^ 29) {K : Value → Heap → Prop}
    (hk : ∀ p' cap' h', Row 4 S_api_DnsRecord.vals h' p' cap' (L ++ [e]) → Fr (InA p) h h' → (∀ b, InA p' b → InA p b ∨ h.size ≤ b) → K (.slice p' (L ++ [e]).length cap') h') :
    bltV Tryd.prog .append #[T_sl_api_DnsRecord, T_sl_api_DnsRecord] T_sl_api_DnsRecord #[false, false] #[.slice p L.length cap, .slice (some b) 1 1] h K :=
  R.app el_re Tryd.underlying25 (by intro k e; cases e) (by kernel_rfl) (by decide +kernel) re_len (fun _ => rfl) ob 1 hl hk
structure MF (h0 h : Heap) (W : Nat → Prop) (t2 d : Addr) (m : Msg) : Prop where
  fr : Fr (fun _ => False) h0 h
  o2 : Own h t2 [.int .i64 0, .int .i64 0, .slice none 0 0, .slice none 0 0] T_api_Dns
  od : ∃ p1 c1 p2 c2, Own h d [.int .i64 m.Id, .int .i64 m.Flags, .slice p1 m.qs.length c1, .slice p2 m.rs.length c2] T_api_Dns ∧ Row 2 S_api_DnsQuestion.vals h p1 c1 m.qs ∧ Row 4 S_api_DnsRecord.vals h p2 c2 m.rs ∧
    (∀ b, InA p1 b → h0.size ≤ b ∧ b ≠ d.block ∧ b ≠ t2.block ∧ ¬ W b ∧ ¬ InA p2 b) ∧ (∀ b, InA p2 b → h0.size ≤ b ∧ b ≠ d.block ∧ b ≠ t2.block ∧ ¬ W b)
  ge : h0.size ≤ t2.block ∧ h0.size ≤ d.block ∧ t2.block ≠ d.block
  nw : ¬ W t2.block ∧ ¬ W d.block
section
variable {h0 h : Heap} {W : Nat → Prop} {t2 d : Addr} {m : Msg}
theorem MF.call (M : MF h0 h W t2 d m) {S : Nat → Prop} {h' : Heap} (f : Fr S h h') (hS : ∀ b, S b → W b ∧ h0.size ≤ b) : MF h0 h' W t2 d m := by
  obtain ⟨p1, c1, p2, c2, o, R1, R2, i1, i2⟩ := M.od
  exact ⟨M.fr.tr f fun b hb hs => by have := hS b hs; omega, M.o2.fr f fun hs => M.nw.1 (hS _ hs).1, ⟨p1, c1, p2, c2, o.fr f fun hs => M.nw.2 (hS _ hs).1, R1.fr f fun b hb hs => (i1 b hb).2.2.2.1 (hS _ hs).1, R2.fr f fun b hb hs => (i2 b hb).2.2.2 (hS _ hs).1, i1, i2⟩, M.ge, M.nw⟩
theorem MF.fr0 (M : MF h0 h W t2 d m) {h' : Heap} (f : Fr (fun _ => False) h h') : MF h0 h' W t2 d m := M.call f fun _ h => h.elim
theorem MF.pushQ [Gh] (M : MF h0 h W t2 d m) (hl : m.qs.length ≤ 1000) (hW : ∀ b, W b → b < h.size) {q : Qu} {b : Addr} {T : TypeId} {p : Option Addr} {n c : Nat} (hc : hcell h (d.add 2) = some (.slice p n c)) (ob : Own h b q.vals T) {K : Heap → Prop}
    (hk : ∀ h', MF h0 h' W t2 d { m with qs := m.qs ++ [q] } → Fr (fun b => ¬ W b) h h' → K h') : bltV Tryd.prog .append #[T_sl_api_DnsQuestion, T_sl_api_DnsQuestion] T_sl_api_DnsQuestion #[false, false] #[.slice p n c, .slice (some b) 1 1] h fun v h16 => ∃ t62a : Option Addr, ∃ t62n : Nat, ∃ t62c : Nat, v = .slice t62a t62n t62c ∧ st1 h16 (d.add 2) (.slice t62a t62n t62c) K := by
  obtain ⟨p1, c1, p2, c2, o, R1, R2, i1, i2⟩ := M.od
  have he := hc.symm.trans (o.cells.at (j := 2) rfl)
  simp only [Option.some.injEq, Value.slice.injEq] at he
  obtain ⟨rfl, rfl, rfl⟩ := he
  have ge := M.ge
  have z := M.fr.size
  have l2 := M.o2.lt
  have ld := o.lt
  refine appQ R1 ob (by omega) fun p' c' h2 R' f2 hn => ⟨_, _, _, rfl, ?_⟩
  have o' := o.fr f2 fun h => (i1 _ h).2.1 rfl
  refine st1_own o' 2 (by simp) rfl fun h3 f3 _ o3 => ?_
  have z2 := f2.size
  have new : ∀ x, InA p' x → h0.size ≤ x ∧ x ≠ d.block ∧ x ≠ t2.block ∧ ¬ W x ∧ ¬ InA p2 x := fun x hx => by
    rcases hn x hx with h | h
    · exact i1 x h
    · exact ⟨by omega, by omega, by omega, fun hw => by have := hW x hw; omega, fun hi => by have := R2.lt hi; omega⟩
  refine hk h3 ⟨(M.fr.tr f2 fun x hx hi => by have := i1 x hi; omega).tr f3 fun x hx hi => by omega, (M.o2.fr f2 fun h => (i1 _ h).2.2.1 rfl).fr f3 ge.2.2, ⟨p', c', p2, c2, o3, R'.fr f3 fun x hx h => (new x hx).2.1 h, (R2.fr f2 fun x hx h => (i1 x h).2.2.2.2 hx).fr f3 fun x hx h => (i2 x hx).2.1 h, new, i2⟩, M.ge, M.nw⟩ ((f2.mono fun x hx => (i1 x hx).2.2.2.1).trans (f3.mono fun x hx => hx ▸ M.nw.2))
theorem MF.pushR [Gh] (M : MF h0 h W t2 d m) (hl : m.rs.length ≤ 1000) (hW : ∀ b, W b → b < h.size) {q : Re} {b : Addr} {T : TypeId} {p : Option Addr} {n c : Nat} (hc : hcell h (d.add 3) = some (.slice p n c)) (ob : Own h b q.vals T) {K : Heap → Prop}
    (hk : ∀ h', MF h0 h' W t2 d { m with rs := m.rs ++ [q] } → Fr (fun b => ¬ W b) h h' → K h') : bltV Tryd.prog .append #[T_sl_api_DnsRecord, T_sl_api_DnsRecord] T_sl_api_DnsRecord #[false, false] #[.slice p n c, .slice (some b) 1 1] h fun v h16 => ∃ t62a : Option Addr, ∃ t62n : Nat, ∃ t62c : Nat, v = .slice t62a t62n t62c ∧ st1 h16 (d.add 3) (.slice t62a t62n t62c) K := by
  obtain ⟨p1, c1, p2, c2, o, R1, R2, i1, i2⟩ := M.od
  have he := hc.symm.trans (o.cells.at (j := 3) rfl)
  simp only [Option.some.injEq, Value.slice.injEq] at he
  obtain ⟨rfl, rfl, rfl⟩ := he
  have ge := M.ge
  have z := M.fr.size
  have l2 := M.o2.lt
  have ld := o.lt
  refine appR R2 ob (by omega) fun p' c' h2 R' f2 hn => ⟨_, _, _, rfl, ?_⟩
  have o' := o.fr f2 fun h => (i2 _ h).2.1 rfl
  refine st1_own o' 3 (by simp) rfl fun h3 f3 _ o3 => ?_
  have z2 := f2.size
  have new : ∀ x, InA p' x → h0.size ≤ x ∧ x ≠ d.block ∧ x ≠ t2.block ∧ ¬ W x := fun x hx => by
    rcases hn x hx with h | h
    · exact i2 x h
    · exact ⟨by omega, by omega, by omega, fun hw => by have := hW x hw; omega⟩
  refine hk h3 ⟨(M.fr.tr f2 fun x hx hi => by have := i2 x hi; omega).tr f3 fun x hx hi => by omega, (M.o2.fr f2 fun h => (i2 _ h).2.2.1 rfl).fr f3 ge.2.2, ⟨p1, c1, p', c', o3, (R1.fr f2 fun x hx h => (i1 x hx).2.2.2.2 h).fr f3 fun x hx h => (i1 x hx).2.1 h, R'.fr f3 fun x hx h => (new x hx).2.1 h, fun x hx => ⟨(i1 x hx).1, (i1 x hx).2.1, (i1 x hx).2.2.1, (i1 x hx).2.2.2.1, fun hi => ?_⟩, new⟩, M.ge, M.nw⟩ ((f2.mono fun x hx => (i2 x hx).2.2.2).trans (f3.mono fun x hx => hx ▸ M.nw.2))
  rcases hn x hi with h | h
  · exact (i1 x hx).2.2.2.2 h
  · have := R1.lt hx; omega
theorem MF.cellQ (M : MF h0 h W t2 d m) {K : Option Addr → Nat → Nat → Prop} (hk : ∀ p n c, hcell h (d.add 2) = some (.slice p n c) → K p n c) : ldL h (d.add 2) K := by
  obtain ⟨p1, c1, p2, c2, o, R1, R2, i1, i2⟩ := M.od
  have hc : hcell h (d.add 2) = some (.slice p1 m.qs.length c1) := o.cells.at (j := 2) rfl
  exact ldL_mk hc (hk _ _ _ hc)
theorem MF.cellR (M : MF h0 h W t2 d m) {K : Option Addr → Nat → Nat → Prop} (hk : ∀ p n c, hcell h (d.add 3) = some (.slice p n c) → K p n c) : ldL h (d.add 3) K := by
  obtain ⟨p1, c1, p2, c2, o, R1, R2, i1, i2⟩ := M.od
  have hc : hcell h (d.add 3) = some (.slice p2 m.rs.length c2) := o.cells.at (j := 3) rfl
  exact ldL_mk hc (hk _ _ _ hc)
end
def MsgV (e : Int) (m : Msg) (p1 : Option Addr) (c1 : Nat) (p2 : Option Addr) (c2 : Nat) : Value := .tuple #[.agg #[.int .i64 m.Id, .int .i64 m.Flags, .slice p1 m.qs.length c1, .slice p2 m.rs.length c2], .int .i64 e]
/-- What a call of Decode hands back. -/
def MsgK (h : Heap) (e : Int) (m : Msg) (Q : Value → Heap → Prop) : Prop := ∀ p1 c1 p2 c2 h', Fr (fun _ => False) h h' → Row 2 S_api_DnsQuestion.vals h' p1 c1 m.qs → Row 4 S_api_DnsRecord.vals h' p2 c2 m.rs → Q (MsgV e m p1 c1 p2 c2) h'
section
variable {h0 h : Heap} {W : Nat → Prop} {t2 d : Addr} {m : Msg}
theorem MF.errO (M : MF h0 h W t2 d m) {e : Int} {Q : Value → Heap → Prop} (hk : MsgK h0 e emptyM Q) : stN h t2 [.int .i64 0, .int .i64 0, .slice none 0 0, .slice none 0 0] 0 fun h22 => ldI h22 t2 .i64 fun r0_0 => ldI h22 (Addr.add t2 1) .i64 fun r0_1 => ldL h22 (Addr.add t2 2) fun r0_2a r0_2n r0_2c => ldL h22 (Addr.add t2 3) fun r0_3a r0_3n r0_3c => Q (.tuple #[.agg #[.int .i64 r0_0, .int .i64 r0_1, .slice r0_2a r0_2n r0_2c, .slice r0_3a r0_3n r0_3c], .int .i64 e]) h22 := by
  refine stN_own M.o2 (ws := [.int .i64 0, .int .i64 0, .slice none 0 0, .slice none 0 0]) (by rfl) (by rfl) fun h1 f1 _ o1 => ?_
  have c := o1.cells
  refine ldI_mk (c.at0 rfl) (ldI_mk (c.at (j := 1) rfl) (ldL_mk (c.at (j := 2) rfl) (ldL_mk (c.at (j := 3) rfl) ?_)))
  exact hk none 0 none 0 h1 (M.fr.tr f1 fun b hb hi => by have := M.ge; omega) Row.nil Row.nil
theorem MF.okO (M : MF h0 h W t2 d m) {e : Int} {Q : Value → Heap → Prop} (hk : MsgK h0 e m Q) : ldI h d .i64 fun t93_0 => ldI h (Addr.add d 1) .i64 fun t93_1 => ldL h (Addr.add d 2) fun t93_2a t93_2n t93_2c => ldL h (Addr.add d 3) fun t93_3a t93_3n t93_3c => stN h t2 [.int .i64 t93_0, .int .i64 t93_1, .slice t93_2a t93_2n t93_2c, .slice t93_3a t93_3n t93_3c] 0 fun h22 => ldI h22 t2 .i64 fun r0_0 => ldI h22 (Addr.add t2 1) .i64 fun r0_1 => ldL h22 (Addr.add t2 2) fun r0_2a r0_2n r0_2c => ldL h22 (Addr.add t2 3) fun r0_3a r0_3n r0_3c => Q (.tuple #[.agg #[.int .i64 r0_0, .int .i64 r0_1, .slice r0_2a r0_2n r0_2c, .slice r0_3a r0_3n r0_3c], .int .i64 e]) h22 := by
  obtain ⟨p1, c1, p2, c2, o, R1, R2, i1, i2⟩ := M.od
  have c := o.cells
  refine ldI_mk (c.at0 rfl) (ldI_mk (c.at (j := 1) rfl) (ldL_mk (c.at (j := 2) rfl) (ldL_mk (c.at (j := 3) rfl) ?_)))
  refine stN_own M.o2 (ws := [.int .i64 m.Id, .int .i64 m.Flags, .slice p1 m.qs.length c1, .slice p2 m.rs.length c2]) (by rfl) (by rfl) fun h1 f1 _ o1 => ?_
  have c := o1.cells
  refine ldI_mk (c.at0 rfl) (ldI_mk (c.at (j := 1) rfl) (ldL_mk (c.at (j := 2) rfl) (ldL_mk (c.at (j := 3) rfl) ?_)))
  exact hk p1 c1 p2 c2 h1 (M.fr.tr f1 fun b hb hi => by have := M.ge; omega) (R1.fr f1 fun b hb h => (i1 b hb).2.2.1 h) (R2.fr f1 fun b hb h => (i2 b hb).2.2.1 h)
end
theorem manyS_err {α : Type} {f : Nat → Rs α} (hf : ∀ a k, f a = .err k → k ≠ 0) : ∀ (n a : Nat) {k : Int}, manyS f n a = .err k → k ≠ 0
  | 0, _, _, h => by cases h
  | n + 1, a, k, h => by
    unfold manyS at h
    cases hx : f a with
    | err e => rw [hx] at h; cases h; exact hf a _ hx
    | ok x p =>
      rw [hx] at h
      simp only at h
      cases hm : manyS f n p with
      | err e => rw [hm] at h; cases h; exact manyS_err hf n p hm
      | ok l q => rw [hm] at h; cases h
theorem rDecode_c [Gh] (s : Nm) (hs : s.length ≤ 2 ^ 28) {h : Heap} {Q : Value → Heap → Prop} (hk : MsgK h (decS s).1 (decS s).2 Q) : CallT Tryd.prog fn_ref29_Decode #[.string (bs s)] h Q := by
  apply ref29_Decode_s
  unfold ref29_Decode_v
  refine al_mk (vs := [.int .i64 0, .int .i64 0, .slice none 0 0, .slice none 0 0]) fun t2 h1 f1 e1 o2 => ?_
  have z1 := f1.size
  have l2 := o2.lt
  rw [bs_size]
  unfold decS decodeS at hk
  refine ifD (fun e => ?_) fun e => ?_
  · rw [if_pos (by omega)] at hk
    refine stN_own o2 (ws := [.int .i64 0, .int .i64 0, .slice none 0 0, .slice none 0 0]) (by rfl) (by rfl) fun h3 f3 _ o3 => ?_
    have c := o3.cells
    refine ldI_mk (c.at0 rfl) (ldI_mk (c.at (j := 1) rfl) (ldL_mk (c.at (j := 2) rfl) (ldL_mk (c.at (j := 3) rfl) ?_)))
    exact hk none 0 none 0 h3 (f1.tr f3 fun b hb hi => by omega) Row.nil Row.nil
  rw [if_neg (by omega)] at hk
  have nn : ∀ a k, valB ((s.drop a).take k) = num s a k := fun _ _ => rfl
  refine rnumber_c s 0 2 (by omega) (by omega) (by omega) (by omega) rfl ⟨_, rfl, ?_⟩
  refine rnumber_c s 2 2 (by omega) (by omega) (by omega) (by omega) rfl ⟨_, rfl, ?_⟩
  refine al_mk (vs := [.int .i64 0, .int .i64 0, .slice none 0 0, .slice none 0 0]) fun d h5 f5 e5 o5' => ?_
  refine stN_own o5' (ws := [.int .i64 (valB ((s.drop 0).take 2)), .int .i64 (valB ((s.drop 2).take 2)), .slice none 0 0, .slice none 0 0]) (by rfl) (by rfl) fun h6 f6 _ o6 => ?_
  rw [nn, nn] at o6
  have M6 : MF h h6 (fun _ => False) t2 d ⟨num s 0 2, num s 2 2, [], []⟩ := ⟨(f1.trans f5).tr f6 fun b hb hi => by omega, (o2.fr0 f5).fr f6 (by omega), ⟨none, 0, none, 0, o6, Row.nil, Row.nil, fun b hb => (notInA hb).elim, fun b hb => (notInA hb).elim⟩, by omega, ⟨id, id⟩⟩
  refine rnumber_c s 4 2 (by omega) (by omega) (by omega) (by omega) rfl ⟨_, rfl, ?_⟩
  refine rnumber_c s 6 2 (by omega) (by omega) (by omega) (by omega) rfl ⟨_, rfl, ?_⟩
  refine rnumber_c s 8 2 (by omega) (by omega) (by omega) (by omega) rfl ⟨_, rfl, ?_⟩
  refine rnumber_c s 10 2 (by omega) (by omega) (by omega) (by omega) rfl ⟨_, rfl, ?_⟩
  rw [nn, nn, nn, nn]
  have b4 := num2_lt s 4
  have b6 := num2_lt s 6
  have b8 := num2_lt s 8
  have b10 := num2_lt s 10
  have wa : wrap .i64 (wrap .i64 ((num s 6 2 : Int) + (num s 8 2 : Int)) + (num s 10 2 : Int)) = ((num s 6 2 + num s 8 2 + num s 10 2 : Nat) : Int) := by
    rw [wr (x := (num s 6 2 : Int) + (num s 8 2 : Int)) (by omega) (by omega), wr (by omega) (by omega)]; omega
  rw [wa]
  generalize num s 6 2 + num s 8 2 + num s 10 2 = na at *
  generalize num s 4 2 = nq at *
  generalize num s 0 2 = id0 at *
  generalize num s 2 2 = fl0 at *
  have b5 : (nq > 8 ∨ na > 32) → ref29_Decode_b5 t2 Q h6 := fun hb => by
    rw [if_pos hb] at hk
    unfold ref29_Decode_b5
    exact M6.errO hk
  refine ifD (fun h8 => b5 (.inl (by omega))) fun h8 => ifD (fun h8' => b5 (.inr (by omega))) fun h8' => ?_
  rw [if_neg (by omega)] at hk
  have noW : ∀ (b : Nat), False → b < (0 : Nat) := fun _ h => h.elim
  refine LoopV.go (fun n st h' => ∃ (i a : Nat) (acc : List Qu), st = ((a : Int), (i : Int)) ∧ i ≤ nq ∧ n = nq - i ∧ a ≤ s.length ∧ acc.length = i ∧ MF h h' (fun _ => False) t2 d ⟨id0, fl0, acc, []⟩ ∧ manyS (questionS s) nq 12 = pre acc (manyS (questionS s) (nq - i) a)) nq ⟨0, 12, [], rfl, by omega, by omega, by omega, rfl, M6, by rw [pre_nil]; rfl⟩ ?_
  rintro n ⟨a7, i8⟩ h7 ⟨i, a, acc, hst, hi, hn, hal, hacc, M7, hm⟩ Kn hK
  simp only [Prod.mk.injEq] at hst
  obtain ⟨rfl, rfl⟩ := hst
  unfold ref29_Decode_l1
  dsimp only
  refine ifD (fun e1 => ?_) fun e1 => ?_
  · obtain ⟨k, hk'⟩ : ∃ k, nq - i = k + 1 := ⟨nq - i - 1, by omega⟩
    rw [hk', pre_many] at hm
    refine rquestion_c s hs a (by omega) rfl fun h8 f8 => ?_
    have M8 := M7.fr0 f8
    cases hq : questionS s a with
    | err e =>
      rw [hq] at hm
      refine ⟨_, _, _, _, rfl, ?_⟩
      refine al_mk (vs := [.string (bs []), .int .i64 0]) fun t9 h9 f9 e9 o9' => ?_
      refine stN_own o9' (ws := [.string (bs []), .int .i64 0]) (by rfl) (by rfl) fun h10 f10 _ o10 => ?_
      have M10 : MF h h10 (fun _ => False) t2 d ⟨id0, fl0, acc, []⟩ := M8.fr0 (f9.tr f10 fun b hb hi => by omega)
      refine ifNe (fun _ => ?_) fun h => absurd h (questionS_err hq)
      rw [hm] at hk
      exact M10.errO hk
    | ok q p =>
      rw [hq] at hm
      have hql := questionS_le hq
      refine ⟨_, _, _, _, rfl, ?_⟩
      refine al_mk (vs := [.string (bs []), .int .i64 0]) fun t9 h9 f9 e9 o9' => ?_
      refine stN_own o9' (ws := [.string (bs q.Name), .int .i64 q.Type_]) (by rfl) (by rfl) fun h10 f10 _ o10 => ?_
      have M10 : MF h h10 (fun _ => False) t2 d ⟨id0, fl0, acc, []⟩ := M8.fr0 (f9.tr f10 fun b hb hi => by omega)
      refine ifNe (fun h => absurd rfl h) fun _ => ?_
      refine M10.cellQ fun p1 n1 c1 hc => ?_
      refine ldS_mk (o10.cells.at0 rfl) (ldI_mk (o10.cells.at (j := 1) rfl) ?_)
      refine al_mk (vs := q.vals) fun t61 h11 f11 e11 o11 => ?_
      refine (M10.fr0 f11).pushQ (by show acc.length ≤ _; omega) (fun _ h => h.elim) (f11.hcell hc id) o11 fun h12 M12 _ => ?_
      rw [wr (by omega) (by omega)]
      exact hK (nq - (i + 1)) _ _ (by omega) ⟨i + 1, p, acc ++ [q], rfl, by omega, rfl, hql.1, by simp [hacc], M12, by rw [show nq - (i + 1) = k by omega]; exact hm⟩
  · have hiq : i = nq := by omega
    subst hiq
    rw [Nat.sub_self] at hm
    have hm : manyS (questionS s) i 12 = .ok acc a := by rw [hm]; show Rs.ok (acc ++ []) a = _; rw [List.append_nil]
    rw [hm] at hk
    simp only at hk
    unfold ref29_Decode_b2
    refine LoopV.go (fun n st h' => ∃ (j a' : Nat) (rs : List Re), st = ((a' : Int), (j : Int)) ∧ j ≤ na ∧ n = na - j ∧ a' ≤ s.length ∧ rs.length = j ∧ MF h h' (fun _ => False) t2 d ⟨id0, fl0, acc, rs⟩ ∧ manyS (recordS s) na a = pre rs (manyS (recordS s) (na - j) a')) na ⟨0, a, [], rfl, by omega, by omega, hal, rfl, M7, by rw [pre_nil]; rfl⟩ ?_
    rintro n2 ⟨a7, i8⟩ h9 ⟨j, a', rs, hst, hj, hn2, hal', hrs, M9, hm2⟩ Kn3 hK3
    simp only [Prod.mk.injEq] at hst
    obtain ⟨rfl, rfl⟩ := hst
    unfold ref29_Decode_l3
    dsimp only
    refine ifD (fun e2 => ?_) fun e2 => ?_
    · obtain ⟨k, hk'⟩ : ∃ k, na - j = k + 1 := ⟨na - j - 1, by omega⟩
      rw [hk', pre_many] at hm2
      refine rrecord_c s hs a' (by omega) rfl fun h10 f10 => ?_
      have M10 := M9.fr0 f10
      cases hq : recordS s a' with
      | err e =>
        rw [hq] at hm2
        refine ⟨_, _, _, _, _, _, rfl, ?_⟩
        refine al_mk (vs := [.string (bs []), .int .i64 0, .int .i64 0, .string (bs [])]) fun t9 h11 f11 e11 o11' => ?_
        refine stN_own o11' (ws := [.string (bs []), .int .i64 0, .int .i64 0, .string (bs [])]) (by rfl) (by rfl) fun h12 f12 _ o12 => ?_
        have M12 : MF h h12 (fun _ => False) t2 d ⟨id0, fl0, acc, rs⟩ := M10.fr0 (f11.tr f12 fun b hb hi => by omega)
        refine ifNe (fun _ => ?_) fun h => absurd h (recordS_err hq)
        rw [hm2] at hk
        exact M12.errO hk
      | ok q p =>
        rw [hq] at hm2
        have hql := recordS_le hq
        refine ⟨_, _, _, _, _, _, rfl, ?_⟩
        refine al_mk (vs := [.string (bs []), .int .i64 0, .int .i64 0, .string (bs [])]) fun t9 h11 f11 e11 o11' => ?_
        refine stN_own o11' (ws := [.string (bs q.Name), .int .i64 q.Type_, .int .i64 q.Ttl, .string (bs q.Data)]) (by rfl) (by rfl) fun h12 f12 _ o12 => ?_
        have M12 : MF h h12 (fun _ => False) t2 d ⟨id0, fl0, acc, rs⟩ := M10.fr0 (f11.tr f12 fun b hb hi => by omega)
        refine ifNe (fun h => absurd rfl h) fun _ => ?_
        refine M12.cellR fun p1 n1 c1 hc => ?_
        have c := o12.cells
        refine ldS_mk (c.at0 rfl) (ldI_mk (c.at (j := 1) rfl) (ldI_mk (c.at (j := 2) rfl) (ldS_mk (c.at (j := 3) rfl) ?_)))
        refine al_mk (vs := q.vals) fun t61 h13 f13 e13 o13 => ?_
        refine (M12.fr0 f13).pushR (by show rs.length ≤ _; omega) (fun _ h => h.elim) (f13.hcell hc id) o13 fun h14 M14 _ => ?_
        rw [wr (by omega) (by omega)]
        exact hK3 (na - (j + 1)) _ _ (by omega) ⟨j + 1, p, rs ++ [q], rfl, by omega, rfl, hql, by simp [hrs], M14, by rw [show na - (j + 1) = k by omega]; exact hm2⟩
    · have hja : j = na := by omega
      subst hja
      rw [Nat.sub_self] at hm2
      have hm2 : manyS (recordS s) j a = .ok rs a' := by rw [hm2]; show Rs.ok (rs ++ []) a' = _; rw [List.append_nil]
      rw [hm2] at hk
      simp only at hk
      unfold ref29_Decode_b4
      rw [bs_size]
      refine ifNe (fun e3 => ?_) fun e3 => ?_
      · rw [if_pos (by omega)] at hk
        exact M9.errO hk
      · rw [if_neg (by omega)] at hk
        exact M9.okO hk
end Go.Proofs.YtmjbcnbjedipdaaDoor
/-!
  The program's Decode.
-/
namespace Go.Proofs.YtmjbcnbjedipdaaDoor
set_option linter.unusedSimpArgs false
set_option linter.unusedVariables false
set_option maxRecDepth 20000
open Go
open Go.IntKind (wrap)
def clS (s : Nm) (e : Int) (a : Nat) : Int × Nat := if (numS s 2 e a).1 = 0 ∧ num s a 2 ≠ 1 then (2, (numS s 2 e a).2) else numS s 2 e a
theorem class_c [Gh] {h : Heap} {r : Addr} {s : Nm} {e : Int} {a : Nat} (R : RdF h r s e a) {Q : Value → Heap → Prop} (hk : ∀ h', Fr (fun b => b = r.block) h h' → RdF h' r s (clS s e a).1 (clS s e a).2 → Q (.tuple #[]) h') : CallT Tryd.prog fn_dns_reader_class #[.pointer (some r)] h Q := by
  apply dns_reader_class_s
  unfold dns_reader_class_v
  refine number_c R 2 (by omega) fun n h1 f1 R1 hn => ⟨_, rfl, ?_⟩
  unfold clS at hk
  refine ifNe (fun e1 => ?_) fun e1 => ?_
  · refine fail_c R1 (by decide) fun h2 f2 R2 => ⟨rfl, ?_⟩
    unfold failE at R2
    by_cases h0 : (numS s 2 e a).1 = 0
    · have hn := hn h0
      rw [if_pos h0] at R2
      rw [if_pos ⟨h0, by unfold num; omega⟩] at hk
      exact hk h2 (f1.trans f2) R2
    · rw [if_neg h0] at R2
      rw [if_neg (fun h => h0 h.1)] at hk
      exact hk h2 (f1.trans f2) R2
  · rw [if_neg (fun h => h.2 (by have := hn h.1; unfold num; omega))] at hk
    exact hk h1 f1 R1
def dataS (s : Nm) (kind : Int) (a n : Nat) : Rs Nm :=
  if a + n > s.length then .err 1
  else if skipI kind < 0 then .ok ((s.drop a).take n) (a + n)
  else if a + (skipI kind).toNat > s.length then .err 1
  else match nm s (a + (skipI kind).toNat) with
    | .err e => .err e
    | .ok m en => if en ≠ a + n then .err 2 else .ok ((s.drop a).take (skipI kind).toNat ++ m) (a + n)
theorem nextS_byte (s : Nm) (e : Int) (a : Nat) : ∃ x : UInt8, (nextS s e a).1 = byteI x := by
  unfold nextS
  split
  · exact ⟨0, rfl⟩
  · split
    · exact ⟨_, rfl⟩
    · exact ⟨0, rfl⟩
theorem nextS_ok {s : Nm} {a : Nat} (h : a < s.length) : nextS s 0 a = (byteI s[a], 0, a + 1) := by unfold nextS; rw [if_neg (show ¬ ((0 : Int) ≠ 0) by decide), dif_pos h]
theorem nextS_end {s : Nm} {a : Nat} (h : ¬ a < s.length) : nextS s 0 a = (0, 1, a) := by unfold nextS; rw [if_neg (show ¬ ((0 : Int) ≠ 0) by decide), dif_neg h]
theorem nextS_bad {s : Nm} {e : Int} {a : Nat} (h : e ≠ 0) : nextS s e a = (0, e, a) := by unfold nextS; rw [if_pos h]
theorem byteI_inj {u v : UInt8} (h : byteI u = byteI v) : u = v := by apply UInt8.toNat_inj.1; unfold byteI at h; omega
theorem next2 (s : Nm) (a : Nat) : (nextS s (nextS s 0 a).2.1 (nextS s 0 a).2.2).2.1 = (if a + 2 ≤ s.length then 0 else 1) ∧ (a + 2 ≤ s.length → (nextS s (nextS s 0 a).2.1 (nextS s 0 a).2.2).2.2 = a + 2) ∧ ∀ (x y : UInt8), a + 2 ≤ s.length → (nextS s 0 a).1 = byteI x → (nextS s (nextS s 0 a).2.1 (nextS s 0 a).2.2).1 = byteI y → [x, y] = (s.drop a).take 2 := by
  by_cases ha : a < s.length
  · have e1 : nextS s (nextS s 0 a).2.1 (nextS s 0 a).2.2 = nextS s 0 (a + 1) := congrArg (fun z => nextS s z.2.1 z.2.2) (nextS_ok ha)
    rw [e1]
    by_cases hb : a + 1 < s.length
    · rw [nextS_ok hb, nextS_ok ha, if_pos (by omega)]
      refine ⟨rfl, fun _ => rfl, fun x y _ hx hy => ?_⟩
      rw [List.drop_eq_getElem_cons ha, List.drop_eq_getElem_cons hb, byteI_inj hx, byteI_inj hy]
      rfl
    · rw [nextS_end hb, if_neg (by omega)]
      exact ⟨rfl, fun h => absurd h (by omega), fun _ _ h => absurd h (by omega)⟩
  · have e1 : nextS s (nextS s 0 a).2.1 (nextS s 0 a).2.2 = nextS s 1 a := congrArg (fun z => nextS s z.2.1 z.2.2) (nextS_end ha)
    rw [e1, nextS_bad (by decide), if_neg (by omega)]
    exact ⟨rfl, fun h => absurd h (by omega), fun _ _ h => absurd h (by omega)⟩
theorem data_c [Gh] {h : Heap} {r : Addr} {s : Nm} {e : Int} {a : Nat} (R : RdF h r s e a) (kind : Int) (n : Int) (nn : Nat) (hn0 : e = 0 → n = nn) (hn1 : nn < 65536) {Q : Value → Heap → Prop}
    (hk : ∀ D h' e' a', Fr (fun b => b = r.block) h h' → RdF h' r s e' a' → (e ≠ 0 → e' = e) → (e = 0 → (∀ k, dataS s kind a nn = .err k → e' = k) ∧ ∀ x p, dataS s kind a nn = .ok x p → e' = 0 ∧ a' = p ∧ D = x) → Q (.string (bs D)) h') :
    CallT Tryd.prog fn_dns_reader_data #[.pointer (some r), .int .i64 kind, .int .i64 n] h Q := by
  apply dns_reader_data_s
  unfold dns_reader_data_v
  have hlim := R.lim
  have hle := R.le
  -- an error ahead
  have bad : ∀ {h1 : Heap} {e1 : Int}, Fr (fun b => b = r.block) h h1 → RdF h1 r s e1 a → e1 ≠ 0 → (e ≠ 0 → e1 = e) → (e = 0 → dataS s kind a nn = .err e1) → dns_reader_data_b1 (some r) kind n Q h1 := by
    intro h1 e1 f1 R1 he hb1 hb2
    unfold dns_reader_data_b1
    refine nn_mk (R1.err (ifNe (fun _ => ?_) fun h => absurd h he))
    refine hk [] h1 e1 a f1 R1 hb1 fun h0 => ⟨fun k hk => ?_, fun x p hx => ?_⟩
    · rw [hb2 h0] at hk; cases hk; rfl
    · rw [hb2 h0] at hx; cases hx
  refine nn_mk (R.err (ifE (fun e0 => ?_) fun e0 => bad (Fr.refl _ _) R e0 (fun _ => rfl) fun h => absurd h e0))
  subst e0
  have hn0 := hn0 rfl
  subst hn0
  have hle := hle rfl
  refine nn_mk (R.str (nn_mk (R.raw fun x hx => ?_)))
  have hx := hx rfl
  subst hx
  rw [bs_size, wr (x := ((s.length : Nat) : Int) - (a : Int)) (by omega) (by omega)]
  unfold dataS at hk
  refine ifD (fun e1 => ?_) fun e1 => ?_
  · refine nn_mk (R.setErr (by decide) fun h1 f1 R1 => ?_)
    refine bad f1 R1 (by decide) (fun h => absurd rfl h) fun _ => ?_
    unfold dataS; rw [if_pos (by omega)]
  rw [if_neg (by omega)] at hk
  have hk : ∀ D h' e' a', Fr (fun b => b = r.block) h h' → RdF h' r s e' a' → ((∀ k, dataS s kind a nn = .err k → e' = k) ∧ ∀ x p, dataS s kind a nn = .ok x p → e' = 0 ∧ a' = p ∧ D = x) → Q (.string (bs D)) h' := fun D h' e' a' f R g => hk D h' e' a' f R (fun h => absurd rfl h) fun _ => by
    unfold dataS at g; rw [if_neg (by omega)] at g; exact g
  clear bad
  unfold dns_reader_data_b1
  refine nn_mk (R.err ?_)
  rw [if_neg (by decide)]
  refine nn_mk (R.raw fun x hx => ?_)
  have hx := hx rfl
  subst hx
  have wn : wrap .i64 ((a : Int) + (nn : Int)) = ((a + nn : Nat) : Int) := by rw [wr (by omega) (by omega)]; omega
  -- the raw data
  have raw : skipI kind < 0 → dns_reader_data_b3 (some r) (nn : Int) (a : Int) Q h := fun hs => by
    unfold dns_reader_data_b3
    refine nn_mk (R.raw fun x hx => ?_)
    have hx := hx rfl
    subst hx
    rw [wn]
    refine nn_mk (R.setAt _ (a + nn) (fun _ => ⟨rfl, by omega⟩) fun h1 f1 R1 => ?_)
    refine nn_mk (R1.str (nn_mk (R1.raw fun y hy => ?_)))
    have hy := hy rfl
    subst hy
    refine slS s a (a + nn) rfl rfl (by omega) (by omega) ?_
    rw [Nat.add_sub_cancel_left]
    refine hk _ h1 0 (a + nn) f1 R1 ⟨fun k hd => ?_, fun x p hd => ?_⟩
    · unfold dataS at hd; rw [if_neg (by omega), if_pos hs] at hd; cases hd
    · unfold dataS at hd; rw [if_neg (by omega), if_pos hs] at hd; cases hd; exact ⟨rfl, rfl, rfl⟩
  -- the end behind a name
  have b2 : ∀ {h1 : Heap} {e1 : Int} {a1 : Nat} {D : Nm}, Fr (fun b => b = r.block) h h1 → RdF h1 r s e1 a1 → (e1 ≠ 0 → dataS s kind a nn = .err e1) → (e1 = 0 → dataS s kind a nn = if a1 ≠ a + nn then .err 2 else .ok D (a + nn)) → dns_reader_data_b2 (some r) (nn : Int) (a : Int) (bs D) Q h1 := by
    intro h1 e1 a1 D f1 R1 hb hg
    unfold dns_reader_data_b2
    rw [wn]
    refine nn_mk (R1.raw fun x hx => ?_)
    refine ifNe (fun e2 => ?_) fun e2 => ?_
    · refine fail_c R1 (by decide) fun h2 f2 R2 => ⟨rfl, ?_⟩
      unfold failE at R2
      refine hk D h2 _ _ (f1.trans f2) R2 ?_
      by_cases he : e1 = 0
      · have hx := hx he
        rw [if_pos he, hg he, if_pos (by omega)]
        exact ⟨fun k hk => by cases hk; rfl, fun x p hk => by cases hk⟩
      · rw [if_neg he, hb he]
        exact ⟨fun k hk => by cases hk; rfl, fun x p hk => by cases hk⟩
    · refine hk D h1 e1 a1 f1 R1 ?_
      by_cases he : e1 = 0
      · have hx := hx he
        rw [hg he, if_neg (by omega)]
        exact ⟨fun k hk => (by cases hk), fun x p hk => by cases hk; exact ⟨he, by omega, rfl⟩⟩
      · rw [hb he]
        exact ⟨fun k hk => by cases hk; rfl, fun x p hk => by cases hk⟩
  -- a name, what stands before it read
  have nmc : ∀ {h1 : Heap} {e1 : Int} {a1 : Nat} {B : Nm} {K : Value → Heap → Prop}, 0 ≤ skipI kind → Fr (fun b => b = r.block) h h1 → RdF h1 r s e1 a1 → (e1 ≠ 0 → dataS s kind a nn = .err e1) → (e1 = 0 → a1 = a + (skipI kind).toNat ∧ B = (s.drop a).take (skipI kind).toNat ∧ ¬ a + (skipI kind).toNat > s.length) →
      (∀ D h2 e2 a2, D.length ≤ 253 → Fr (fun b => b = r.block) h h2 → Fr (fun b => b = r.block) h1 h2 → RdF h2 r s e2 a2 → (e2 ≠ 0 → dataS s kind a nn = .err e2) → (e2 = 0 → dataS s kind a nn = if a2 ≠ a + nn then .err 2 else .ok (B ++ D) (a + nn)) → K (.string (bs D)) h2) → CallT Tryd.prog fn_dns_reader_name #[.pointer (some r)] h1 K := by
    intro h1 e1 a1 B K hsk f1 R1 hb hg hK
    refine name_c R1 (fun he h2 f2 R2 => hK [] h2 e1 a1 (by simp) (f1.trans f2) f2 R2 hb fun h => absurd h he) (fun he k hnk hk0 h2 a2 f2 R2 => ?_) fun he n en hnk h2 f2 R2 => ?_
    · obtain ⟨g1, g2, g3⟩ := hg he
      subst g1
      refine hK [] h2 k a2 (by simp) (f1.trans f2) f2 R2 (fun _ => ?_) fun h => absurd h hk0
      have hnk : nm s (a + (skipI kind).toNat) = .err k := hnk
      unfold dataS; rw [if_neg (by omega), if_neg (by omega), if_neg g3, hnk]
    · obtain ⟨g1, g2, g3⟩ := hg he
      subst g1
      have hnk : nm s (a + (skipI kind).toNat) = .ok n en := hnk
      refine hK n h2 0 en (nm_len hnk) (f1.trans f2) f2 R2 (fun h => absurd rfl h) fun _ => ?_
      unfold dataS; rw [if_neg (by omega), if_neg (by omega), if_neg g3, hnk, g2]
  have plain : skipI kind = 0 → CallT Tryd.prog fn_dns_reader_name #[.pointer (some r)] h fun v h12 => ∃ t81 : ByteArray, v = .string t81 ∧ dns_reader_data_b2 (some r) (nn : Int) (a : Int) t81 Q h12 := fun hs => by
    refine nmc (B := []) (by omega) (Fr.refl _ _) R (fun h => absurd rfl h) (fun _ => ⟨by rw [hs]; rfl, by rw [hs]; rfl, by rw [hs]; simp; omega⟩) fun D h2 e2 a2 hD f2 _ R2 g1 g2 => ⟨_, rfl, ?_⟩
    exact b2 f2 R2 g1 g2
  refine ifE (fun e2 => ?_) fun e2 => ?_
  · have hs : skipI kind = 2 := by unfold skipI; rw [if_neg (by omega), if_pos e2]
    have hs2 : (skipI kind).toNat = 2 := by rw [hs]; rfl
    refine next_c R fun h1 f1 R1 => ⟨_, rfl, ?_⟩
    refine next_c R1 fun h2 f2 R2 => ⟨_, rfl, ?_⟩
    obtain ⟨x, hx⟩ := nextS_byte s 0 a
    obtain ⟨y, hy⟩ := nextS_byte s (nextS s 0 a).2.1 (nextS s 0 a).2.2
    have hbx := byteI_le x
    have hby := byteI_le y
    rw [hx, hy, wrb hbx.1 hbx.2, wrb hby.1 hby.2]
    have F2 := f1.trans f2
    obtain ⟨n1, n2, n3⟩ := next2 s a
    have g1 : (nextS s (nextS s 0 a).2.1 (nextS s 0 a).2.2).2.1 ≠ 0 → dataS s kind a nn = .err (nextS s (nextS s 0 a).2.1 (nextS s 0 a).2.2).2.1 := fun h => by
      rw [n1] at h ⊢
      by_cases h2 : a + 2 ≤ s.length
      · rw [if_pos h2] at h; exact absurd rfl h
      · rw [if_neg h2]; unfold dataS; rw [if_neg (by omega), if_neg (by omega), if_pos (by omega)]
    have g2 : (nextS s (nextS s 0 a).2.1 (nextS s 0 a).2.2).2.1 = 0 → (nextS s (nextS s 0 a).2.1 (nextS s 0 a).2.2).2.2 = a + (skipI kind).toNat ∧ [x, y] = (s.drop a).take (skipI kind).toNat ∧ ¬ a + (skipI kind).toNat > s.length := fun h => by
      rw [hs2]
      rw [n1] at h
      by_cases h2 : a + 2 ≤ s.length
      · exact ⟨n2 h2, n3 x y h2 hx hy, by omega⟩
      · rw [if_neg h2] at h; exact absurd h (by decide)
    clear n1 n2 n3
    generalize (nextS s (nextS s 0 a).2.1 (nextS s 0 a).2.2).2.1 = e4 at *
    generalize (nextS s (nextS s 0 a).2.1 (nextS s 0 a).2.2).2.2 = a4 at *
    have lens : ∀ {D : Nm}, D.length ≤ 253 → ((((bs [x, y]).size + (bs D).size : Nat) : Int)) ≤ IntKind.max .i64 := fun hD => by rw [bs_size, bs_size, imax]; simp; omega
    refine ⟨?_, ?_⟩
    · refine al_mk (vs := [x, y].flatMap bV) fun t71 h3 f3 e3 o3 => ?_
      have Rw := Row.of_own bV_len o3
      have lt2 := R2.lt
      refine ⟨?_, ?_⟩
      · refine conv8 (l := [x, y]) Rw ⟨_, rfl, ?_⟩
        refine nmc (B := [x, y]) (by omega) (F2.trans (f3.mono fun _ h => h.elim)) (R2.fr0 f3) g1 g2 fun D h5 e5 a5 hD f5 _ R5 g3 g4 => ⟨_, rfl, lens hD, ?_⟩
        rw [bs_append]
        exact b2 f5 R5 g3 g4
      · refine nmc (B := [x, y]) (by omega) (F2.trans (f3.mono fun _ h => h.elim)) (R2.fr0 f3) g1 g2 fun D h5 e5 a5 hD f5 f35 R5 g3 g4 => ⟨_, rfl, ?_⟩
        refine conv8 (l := [x, y]) (Rw.fr f35 fun b hb h => by obtain ⟨ad, h1, rfl⟩ := hb; cases h1; omega) ⟨_, rfl, lens hD, ?_⟩
        rw [bs_append]
        exact b2 f5 R5 g3 g4
    · refine nmc (B := [x, y]) (by omega) F2 R2 g1 g2 fun D h5 e5 a5 hD f5 f35 R5 g3 g4 => ⟨_, rfl, ?_⟩
      refine al_mk (vs := [x, y].flatMap bV) fun t71 h6 f6 e6 o6 => ?_
      refine conv8 (l := [x, y]) (Row.of_own bV_len o6) ⟨_, rfl, lens hD, ?_⟩
      rw [bs_append]
      exact b2 (f5.trans (f6.mono fun _ h => h.elim)) (R5.fr0 f6) g3 g4
  refine ifE (fun e3 => ?_) fun e3 => ?_
  · have hs : skipI kind = 0 := by unfold skipI; rw [if_pos (by omega)]
    rw [if_pos (by simpa using e3)]
    exact plain hs
  refine ifE (fun e4 => ?_) fun e4 => ?_
  · have hs : skipI kind = 0 := by unfold skipI; rw [if_pos (by omega)]
    rw [if_pos (by simpa using e4)]
    exact plain hs
  refine ifE (fun e5 => ?_) fun e5 => ?_
  · exact plain (by unfold skipI; rw [if_pos (by omega)])
  · exact raw (by unfold skipI; rw [if_neg (by omega), if_neg (by omega)]; decide)
end Go.Proofs.YtmjbcnbjedipdaaDoor
/-!
  The program's Decode: questions, records, the whole.
-/
namespace Go.Proofs.YtmjbcnbjedipdaaDoor
set_option linter.unusedSimpArgs false
set_option linter.unusedVariables false
set_option maxRecDepth 20000
open Go
open Go.IntKind (wrap)
theorem numS_bad {s : Nm} {k : Nat} {e : Int} {a : Nat} (h : e ≠ 0) : numS s k e a = (e, a) := by unfold numS; rw [if_pos h]
theorem numS_ok {s : Nm} {k a : Nat} (h : a + k ≤ s.length) : numS s k 0 a = (0, a + k) := by unfold numS; rw [if_neg (show ¬ ((0 : Int) ≠ 0) by decide), if_pos h]
theorem numS_short {s : Nm} {k a : Nat} (h : ¬ a + k ≤ s.length) : numS s k 0 a = (1, a) := by unfold numS; rw [if_neg (show ¬ ((0 : Int) ≠ 0) by decide), if_neg h]
theorem clS_bad {s : Nm} {e : Int} {a : Nat} (h : e ≠ 0) : clS s e a = (e, a) := by unfold clS; rw [numS_bad h, if_neg fun hh => h hh.1]
theorem clS_short {s : Nm} {a : Nat} (h : ¬ a + 2 ≤ s.length) : clS s 0 a = (1, a) := by unfold clS; rw [numS_short h, if_neg fun hh => absurd hh.1 (show ¬ ((1 : Int) = 0) by decide)]
theorem clS_no {s : Nm} {a : Nat} (h : a + 2 ≤ s.length) (hn : num s a 2 ≠ 1) : clS s 0 a = (2, a + 2) := by unfold clS; rw [numS_ok h, if_pos ⟨rfl, hn⟩]
theorem clS_ok {s : Nm} {a : Nat} (h : a + 2 ≤ s.length) (hn : num s a 2 = 1) : clS s 0 a = (0, a + 2) := by unfold clS; rw [numS_ok h, if_neg fun hh => hh.2 hn]
/-- A question, read. -/
theorem qflow {s : Nm} {a : Nat} {e1 : Int} {a1 : Nat} {N : Nm} {T : Int} (h1 : ∀ k, nm s a = .err k → e1 = k) (h2 : ∀ n en, nm s a = .ok n en → e1 = 0 ∧ a1 = en ∧ N = n) (hT : (numS s 2 e1 a1).1 = 0 → T = (num s a1 2 : Int)) :
    (∀ k, questionS s a = .err k → (clS s (numS s 2 e1 a1).1 (numS s 2 e1 a1).2).1 = k) ∧ ∀ q p, questionS s a = .ok q p → (clS s (numS s 2 e1 a1).1 (numS s 2 e1 a1).2).1 = 0 ∧ (clS s (numS s 2 e1 a1).1 (numS s 2 e1 a1).2).2 = p ∧ (⟨N, T⟩ : Qu) = q := by
  unfold questionS
  cases hn : nm s a with
  | err k =>
    have hk0 := nameS_err s _ _ _ _ _ _ hn
    have := h1 k hn
    subst this
    rw [numS_bad hk0, clS_bad hk0]
    exact ⟨fun k' h => by cases h; rfl, fun q p h => by cases h⟩
  | ok n en =>
    obtain ⟨rfl, rfl, rfl⟩ := h2 n en hn
    have hen := nm_le hn
    simp only
    by_cases h3 : a1 + 2 ≤ s.length
    · rw [numS_ok h3] at hT ⊢
      have hT := hT rfl
      subst hT
      by_cases h4 : a1 + 2 + 2 ≤ s.length
      · rw [if_neg (by omega)]
        by_cases h5 : num s (a1 + 2) 2 = 1
        · rw [clS_ok h4 h5, if_neg (by omega)]
          exact ⟨fun k' h => (by cases h), fun q p h => by cases h; exact ⟨rfl, rfl, rfl⟩⟩
        · rw [clS_no h4 h5, if_pos h5]
          exact ⟨fun k' h => by cases h; rfl, fun q p h => by cases h⟩
      · rw [clS_short h4, if_pos (by omega)]
        exact ⟨fun k' h => by cases h; rfl, fun q p h => by cases h⟩
    · rw [numS_short h3, clS_bad (show (1 : Int) ≠ 0 by decide), if_pos (by omega)]
      exact ⟨fun k' h => by cases h; rfl, fun q p h => by cases h⟩
/-- A record, read behind its question. -/
theorem rflow {s : Nm} {a : Nat} {e3 : Int} {a3 : Nat} {N D : Nm} {T L : Int} {nn : Nat} {e6 : Int} {a6 : Nat} (h1 : ∀ k, questionS s a = .err k → e3 = k) (h2 : ∀ q p, questionS s a = .ok q p → e3 = 0 ∧ a3 = p ∧ (⟨N, T⟩ : Qu) = q)
    (hL : (numS s 4 e3 a3).1 = 0 → L = (num s a3 4 : Int)) (hn : (numS s 2 (numS s 4 e3 a3).1 (numS s 4 e3 a3).2).1 = 0 → nn = num s (numS s 4 e3 a3).2 2)
    (hd1 : (numS s 2 (numS s 4 e3 a3).1 (numS s 4 e3 a3).2).1 ≠ 0 → e6 = (numS s 2 (numS s 4 e3 a3).1 (numS s 4 e3 a3).2).1)
    (hd2 : (numS s 2 (numS s 4 e3 a3).1 (numS s 4 e3 a3).2).1 = 0 → (∀ k, dataS s T (numS s 2 (numS s 4 e3 a3).1 (numS s 4 e3 a3).2).2 nn = .err k → e6 = k) ∧ ∀ x p, dataS s T (numS s 2 (numS s 4 e3 a3).1 (numS s 4 e3 a3).2).2 nn = .ok x p → e6 = 0 ∧ a6 = p ∧ D = x) :
    (∀ k, recordS s a = .err k → e6 = k) ∧ ∀ x p, recordS s a = .ok x p → e6 = 0 ∧ a6 = p ∧ (⟨N, T, L, D⟩ : Re) = x := by
  unfold recordS
  cases hq : questionS s a with
  | err k =>
    have hk0 := questionS_err hq
    have := h1 k hq
    subst this
    rw [numS_bad hk0, numS_bad hk0] at hd1
    have := hd1 hk0
    subst this
    exact ⟨fun k' h => by cases h; rfl, fun q p h => by cases h⟩
  | ok q p =>
    obtain ⟨rfl, rfl, rfl⟩ := h2 q p hq
    simp only
    by_cases h4 : a3 + 4 ≤ s.length
    · rw [numS_ok h4] at hL hn hd1 hd2
      have hL := hL rfl
      subst hL
      dsimp only at hn hd1 hd2
      by_cases h6 : a3 + 4 + 2 ≤ s.length
      · rw [numS_ok h6] at hn hd1 hd2
        have hn := hn rfl
        have hd2 := hd2 rfl
        subst hn
        dsimp only at hd2
        unfold dataS at hd2
        rw [if_neg (show ¬ a3 + 6 > s.length by omega)]
        have e46 : a3 + 4 + 2 = a3 + 6 := rfl
        rw [e46] at hd2
        by_cases h7 : a3 + 6 + num s (a3 + 4) 2 > s.length
        · rw [if_pos h7] at hd2 ⊢
          have := hd2.1 1 rfl
          exact ⟨fun k' h => by cases h; exact this, fun q p h => by cases h⟩
        rw [if_neg h7] at hd2 ⊢
        by_cases h8 : skipI T < 0
        · rw [if_pos h8] at hd2 ⊢
          obtain ⟨g1, g2, g3⟩ := hd2.2 _ _ rfl
          exact ⟨fun k' h => (by cases h), fun q p h => by cases h; exact ⟨g1, g2, by rw [g3]⟩⟩
        rw [if_neg h8] at hd2 ⊢
        by_cases h9 : a3 + 6 + (skipI T).toNat > s.length
        · rw [if_pos h9] at hd2 ⊢
          have := hd2.1 1 rfl
          exact ⟨fun k' h => by cases h; exact this, fun q p h => by cases h⟩
        rw [if_neg h9] at hd2 ⊢
        cases hnm : nm s (a3 + 6 + (skipI T).toNat) with
        | err k =>
          rw [hnm] at hd2
          have := hd2.1 k rfl
          exact ⟨fun k' h => by cases h; exact this, fun q p h => by cases h⟩
        | ok m en =>
          rw [hnm] at hd2
          simp only at hd2 ⊢
          by_cases h10 : en ≠ a3 + 6 + num s (a3 + 4) 2
          · rw [if_pos h10] at hd2 ⊢
            have := hd2.1 2 rfl
            exact ⟨fun k' h => by cases h; exact this, fun q p h => by cases h⟩
          rw [if_neg h10] at hd2 ⊢
          obtain ⟨g1, g2, g3⟩ := hd2.2 _ _ rfl
          exact ⟨fun k' h => (by cases h), fun q p h => by cases h; exact ⟨g1, g2, by rw [g3]⟩⟩
      · rw [numS_short h6] at hd1
        have := hd1 (show (1 : Int) ≠ 0 by decide)
        subst this
        rw [if_pos (by omega)]
        exact ⟨fun k' h => by cases h; rfl, fun q p h => by cases h⟩
    · rw [numS_short h4] at hd1
      dsimp only at hd1
      rw [numS_bad (show (1 : Int) ≠ 0 by decide)] at hd1
      have := hd1 (show (1 : Int) ≠ 0 by decide)
      subst this
      rw [if_pos (by omega)]
      exact ⟨fun k' h => by cases h; rfl, fun q p h => by cases h⟩
section
variable {h0 h : Heap} {t2 d r : Addr} {m : Msg} {s : Nm} {e : Int} {a : Nat} {Q : Value → Heap → Prop}
theorem dec_b8 [Gh] (M : MF h0 h (fun b => b = r.block) t2 d m) (R : RdF h r s e a) (hE : e ≠ 0 → MsgK h0 e emptyM Q) (hO : e = 0 → MsgK h0 0 m Q) : dns_Decode_b8 t2 r d Q h := by
  unfold dns_Decode_b8
  have nw := M.nw.1
  refine R.err (ifNe (fun e1 => ?_) fun e1 => M.okO (hO e1))
  refine R.err ?_
  refine stN_own M.o2 (ws := [.int .i64 0, .int .i64 0, .slice none 0 0, .slice none 0 0]) (by rfl) (by rfl) fun h1 f1 _ o1 => ?_
  refine ⟨(R.fr f1 (by omega)).err rfl, ?_⟩
  have c := o1.cells
  refine ldI_mk (c.at0 rfl) (ldI_mk (c.at (j := 1) rfl) (ldL_mk (c.at (j := 2) rfl) (ldL_mk (c.at (j := 3) rfl) ?_)))
  exact hE e1 none 0 none 0 h1 (M.fr.tr f1 fun b hb hi => by have := M.ge; omega) Row.nil Row.nil
theorem dec_b7 [Gh] (M : MF h0 h (fun b => b = r.block) t2 d m) (R : RdF h r s e a) (hr : h0.size ≤ r.block) (hE : e ≠ 0 → MsgK h0 e emptyM Q) (h2 : e = 0 → a < s.length → MsgK h0 2 emptyM Q) (hO : e = 0 → a = s.length → MsgK h0 0 m Q) : dns_Decode_b7 (bs s) t2 r d Q h := by
  unfold dns_Decode_b7
  have hle := R.le
  refine R.err (ifE (fun e1 => ?_) fun e1 => dec_b8 M R hE fun h => absurd h e1)
  refine R.raw fun x hx => ?_
  have hx := hx e1
  have hle := hle e1
  subst hx
  rw [bs_size]
  refine ifD (fun e3 => ?_) fun e3 => dec_b8 M R hE fun h => hO h (by omega)
  refine R.setErr (by decide) fun h1 f1 R1 => ?_
  exact dec_b8 (M.call f1 fun b hb => ⟨hb, by omega⟩) R1 (fun _ => h2 e1 (by omega)) fun h => absurd h (by decide)
end
def sumA (s : Nm) : Nat → Nat
  | 0 => 0
  | i + 1 => sumA s i + num s (6 + 2 * i) 2
theorem sumA_le (s : Nm) : ∀ i, sumA s i ≤ 65535 * i
  | 0 => by simp [sumA]
  | i + 1 => by have := sumA_le s i; have := num2_lt s (6 + 2 * i); unfold sumA; omega
theorem six {s : Nm} {k : Nat} {e : Int} {a : Nat} (hk : k < 6) (h1 : e = 0 → a = 2 * k) (h2 : e ≠ 0 → e = 1 ∧ s.length < 12) : ((numS s 2 e a).1 = 0 → e = 0 ∧ (numS s 2 e a).2 = 2 * (k + 1)) ∧ ((numS s 2 e a).1 ≠ 0 → (numS s 2 e a).1 = 1 ∧ s.length < 12) := by
  by_cases h0 : e = 0
  · subst h0
    have := h1 rfl
    subst this
    by_cases hl : 2 * k + 2 ≤ s.length
    · rw [numS_ok hl]; exact ⟨fun _ => ⟨rfl, by dsimp only; omega⟩, fun h => absurd rfl h⟩
    · rw [numS_short hl]; exact ⟨fun h => absurd h (by dsimp only; decide), fun _ => ⟨rfl, by omega⟩⟩
  · rw [numS_bad h0]; exact ⟨fun h => absurd h h0, fun _ => h2 h0⟩
set_option maxHeartbeats 1000000 in
theorem decode_c [Gh] (s : Nm) (hs : s.length ≤ 2 ^ 28) {h : Heap} {Q : Value → Heap → Prop} (hk : MsgK h (decS s).1 (decS s).2 Q) : CallT Tryd.prog fn_dns_Decode #[.string (bs s)] h Q := by
  have hE : ∀ k, decodeS s = .err k → MsgK h k emptyM Q := fun k hd => by unfold decS at hk; rw [hd] at hk; exact hk
  have hO : ∀ m q, decodeS s = .ok m q → MsgK h 0 m Q := fun m q hd => by unfold decS at hk; rw [hd] at hk; exact hk
  clear hk
  have sh : s.length < 12 → decodeS s = .err 1 := fun h => by unfold decodeS; rw [if_pos h]
  apply dns_Decode_s
  unfold dns_Decode_v
  refine al_mk (vs := [.int .i64 0, .int .i64 0, .slice none 0 0, .slice none 0 0]) fun t2 h1 f1 e1 o2 => ?_
  refine al_mk (vs := [.string (bs s), .int .i64 0, .int .i64 0]) fun r h2 f2 e2 or => ?_
  have z1 := f1.size
  have z2 := f2.size
  have l2 := o2.lt
  have R2 : RdF h2 r s 0 0 := ⟨⟨0, or, fun _ => rfl⟩, fun _ => by omega, hs⟩
  refine number_c R2 2 (by omega) fun t16 h3 f3 R3 g3 => ⟨_, rfl, ?_⟩
  have s3 := six (s := s) (k := 0) (e := 0) (a := 0) (by omega) (fun _ => rfl) (fun h => absurd rfl h)
  refine number_c R3 2 (by omega) fun t18 h4 f4 R4 g4 => ⟨_, rfl, ?_⟩
  have s4 := six (s := s) (k := 1) (by omega) (fun h => (s3.1 h).2) s3.2
  generalize hs4e : (numS s 2 (numS s 2 0 0).1 (numS s 2 0 0).2).1 = e4 at *
  generalize hs4a : (numS s 2 (numS s 2 0 0).1 (numS s 2 0 0).2).2 = a4 at *
  have F34 : Fr (fun b => b = r.block) h2 h4 := f3.trans f4
  have z34 := F34.size
  refine al_mk (vs := [.int .i64 0, .int .i64 0, .slice none 0 0, .slice none 0 0]) fun d h5 f5 e5 o5' => ?_
  refine stN_own o5' (ws := [.int .i64 t16, .int .i64 t18, .slice none 0 0, .slice none 0 0]) (by rfl) (by rfl) fun h6 f6 z6 o6 => ?_
  have z5 := f5.size
  have lr := or.lt
  have R6 := (R4.fr0 f5).fr f6 (by omega)
  have M6 : MF h h6 (fun b => b = r.block) t2 d ⟨t16, t18, [], []⟩ := by
    refine ⟨(((f1.trans f2).tr F34 fun b hb hi => by omega).trans f5).tr f6 fun b hb hi => by omega, (((o2.fr0 f2).fr F34 (by omega)).fr0 f5).fr f6 (by omega), ⟨none, 0, none, 0, o6, Row.nil, Row.nil, fun b hb => (notInA hb).elim, fun b hb => (notInA hb).elim⟩, by omega, by omega, by omega⟩
  have hids : e4 = 0 → t16 = (num s 0 2 : Int) ∧ t18 = (num s 2 2 : Int) := fun h => by
    obtain ⟨q1, q2⟩ := s4.1 h
    have q3 := (s3.1 q1).2
    refine ⟨g3 q1, ?_⟩
    have := g4 h
    rw [q3] at this; exact this
  have hr : h.size ≤ r.block := by omega
  have hWr : ∀ b, b = r.block → b = r.block ∧ h.size ≤ b := fun b hb => ⟨hb, by omega⟩
  refine number_c R6 2 (by omega) fun t21 h7 f7 R7 g7 => ⟨_, rfl, ?_⟩
  have s7 := six (s := s) (k := 2) (e := e4) (a := a4) (by omega) (fun h => (s4.1 h).2) s4.2
  have M7 := M6.call f7 hWr
  have hids7 : (numS s 2 e4 a4).1 = 0 → t16 = (num s 0 2 : Int) ∧ t18 = (num s 2 2 : Int) ∧ t21 = (num s 4 2 : Int) := fun h => by
    obtain ⟨q1, q2⟩ := s7.1 h
    obtain ⟨q3, q4⟩ := hids q1
    have := g7 h
    rw [(s4.1 q1).2] at this
    exact ⟨q3, q4, this⟩
  clear s3 g3 g4 g7 hids f3 f4 F34 f7 M6 R6 R3 R4 o5' f5 f6 o6 or o2 f1 f2 R2
  generalize (numS s 2 e4 a4).1 = e7 at *
  generalize (numS s 2 e4 a4).2 = a7 at *
  -- the three counts
  refine LoopV.go (fun n st h' => ∃ (i : Nat) (e' : Int) (a' : Nat), st.2 = (i : Int) ∧ i ≤ 3 ∧ n = 3 - i ∧ MF h h' (fun b => b = r.block) t2 d ⟨t16, t18, [], []⟩ ∧ RdF h' r s e' a' ∧ (e' = 0 → e7 = 0 ∧ a' = 2 * (3 + i) ∧ st.1 = (sumA s i : Int)) ∧ (e' ≠ 0 → e' = 1 ∧ s.length < 12)) 3 ⟨0, e7, a7, rfl, by omega, rfl, M7, R7, fun h => ⟨h, (s7.1 h).2, rfl⟩, s7.2⟩ ?_
  rintro n ⟨ans, i8⟩ h8 ⟨i, e', a', hi8, hi, hn, M8, R8, hg, hb⟩ Kn hK
  have hi8 : i8 = (i : Int) := hi8
  subst hi8
  have hg : e' = 0 → e7 = 0 ∧ a' = 2 * (3 + i) ∧ ans = (sumA s i : Int) := hg
  unfold dns_Decode_l1
  dsimp only
  refine ifD (fun e1 => ?_) fun e1 => ?_
  · refine number_c R8 2 (by omega) fun t26 h9 f9 R9 g9 => ⟨_, rfl, ?_⟩
    have s9 := six (s := s) (k := 3 + i) (e := e') (a := a') (by omega) (fun h => (hg h).2.1) hb
    rw [wr (x := (i : Int) + 1) (by omega) (by omega)]
    refine hK (3 - (i + 1)) _ _ (by omega) ⟨i + 1, _, _, rfl, by omega, rfl, M8.call f9 hWr, R9, fun h => ?_, s9.2⟩
    obtain ⟨q1, q2⟩ := s9.1 h
    obtain ⟨q3, q4, q5⟩ := hg q1
    refine ⟨q3, by rw [q2]; omega, ?_⟩
    have := g9 h
    rw [q4] at this
    have hs1 := sumA_le s i
    have hs2 := num2_lt s (6 + 2 * i)
    have e62 : 2 * (3 + i) = 6 + 2 * i := by omega
    rw [e62] at this
    have this : t26 = (num s (6 + 2 * i) 2 : Int) := this
    dsimp only
    rw [q5, this, wr (by omega) (by omega)]
    show _ = ((sumA s i + num s (6 + 2 * i) 2 : Nat) : Int); omega
  have hi3 : i = 3 := by omega
  subst hi3
  -- the reading of questions and records
  have hans : e' = 0 → 12 ≤ s.length ∧ t16 = (num s 0 2 : Int) ∧ t18 = (num s 2 2 : Int) ∧ t21 = (num s 4 2 : Int) ∧ ans = ((num s 6 2 + num s 8 2 + num s 10 2 : Nat) : Int) ∧ a' = 12 := fun h => by
    obtain ⟨q1, q2, q3⟩ := hg h
    obtain ⟨q4, q5, q6⟩ := hids7 q1
    have := R8.le h
    refine ⟨by omega, q4, q5, q6, ?_, by omega⟩
    rw [q3]
    show ((0 + num s (6 + 2 * 0) 2 + num s (6 + 2 * 1) 2 + num s (6 + 2 * 2) 2 : Nat) : Int) = _
    simp
  clear hg hids7 s7 s4 R7 M7
  have b4 := num2_lt s 4
  have rcd : ∀ {h9 : Heap} {e9 : Int} {a9 : Nat} {qs : List Qu}, MF h h9 (fun b => b = r.block) t2 d ⟨t16, t18, qs, []⟩ → RdF h9 r s e9 a9 → (e9 ≠ 0 → decodeS s = .err e9) → (e9 = 0 → e' = 0 ∧ ans ≤ 32 ∧ t21 ≤ 8 ∧ manyS (questionS s) (num s 4 2) 12 = .ok qs a9) → dns_Decode_b5 (bs s) t2 r d ans Q h9 := by
    intro h9 e9 a9 qs M9 R9 hb9 hg9
    unfold dns_Decode_b5
    refine LoopV.go (fun n st h' => ∃ (j : Nat) (e : Int) (a : Nat) (rs : List Re), st = (j : Int) ∧ j ≤ 32 ∧ n = 33 - j ∧ rs.length = j ∧ MF h h' (fun b => b = r.block) t2 d ⟨t16, t18, qs, rs⟩ ∧ RdF h' r s e a ∧ (e ≠ 0 → decodeS s = .err e) ∧ (e = 0 → e9 = 0 ∧ (j : Int) ≤ ans ∧ manyS (recordS s) (num s 6 2 + num s 8 2 + num s 10 2) a9 = pre rs (manyS (recordS s) (num s 6 2 + num s 8 2 + num s 10 2 - j) a))) 33 ⟨0, e9, a9, [], rfl, by omega, rfl, rfl, M9, R9, hb9, fun h => ⟨h, by have := (hans (hg9 h).1).2.2.2.2.1; omega, by rw [pre_nil]; rfl⟩⟩ ?_
    rintro n2 - h10 ⟨j, e, a, rs, rfl, hj, hn2, hrs, M10, R10, hb10, hg10⟩ Kn6 hK6
    unfold dns_Decode_l6
    have fin : (e = 0 → ans ≤ (j : Int)) → dns_Decode_b7 (bs s) t2 r d Q h10 := fun hfin => by
      have hdec : e = 0 → decodeS s = if a ≠ s.length then .err 2 else .ok ⟨num s 0 2, num s 2 2, qs, rs⟩ a := fun h => by
        obtain ⟨q1, q2, q3⟩ := hg10 h
        obtain ⟨q4, q5, q6, q7⟩ := hg9 q1
        obtain ⟨c1, c2, c3, c4, c5, c6⟩ := hans q4
        have hf := hfin h
        have hz : num s 6 2 + num s 8 2 + num s 10 2 - j = 0 := by omega
        rw [hz] at q3
        have q3 : manyS (recordS s) (num s 6 2 + num s 8 2 + num s 10 2) a9 = .ok rs a := by rw [q3]; show Rs.ok (rs ++ []) a = _; rw [List.append_nil]
        unfold decodeS
        rw [if_neg (by omega), if_neg (by omega), q7]
        simp only
        rw [q3]
      refine dec_b7 M10 R10 hr (fun h => hE _ (hb10 h)) (fun h hlt => hE 2 ?_) fun h hlt => ?_
      · rw [hdec h, if_pos (by omega)]
      · have hd := hdec h
        rw [if_neg (by omega)] at hd
        obtain ⟨q1, q2, q3⟩ := hg10 h
        obtain ⟨c1, c2, c3, c4, c5, c6⟩ := hans (hg9 q1).1
        rw [c2, c3]
        exact hO _ _ hd
    refine ifD (fun e2 => ?_) fun e2 => fin fun _ => by omega
    refine R10.err (ifE (fun e3 => ?_) fun e3 => fin fun h => absurd h e3)
    subst e3
    obtain ⟨q1, q2, q3⟩ := hg10 rfl
    obtain ⟨q4, q5, q6, q7⟩ := hg9 q1
    obtain ⟨c1, c2, c3, c4, c5, c6⟩ := hans q4
    obtain ⟨k, hk'⟩ : ∃ k, num s 6 2 + num s 8 2 + num s 10 2 - j = k + 1 := ⟨num s 6 2 + num s 8 2 + num s 10 2 - j - 1, by omega⟩
    rw [hk', pre_many] at q3
    -- the name
    have step : ∀ {h11 : Heap} {e1 : Int} {a1 : Nat} {N : Nm}, Fr (fun b => b = r.block) h10 h11 → RdF h11 r s e1 a1 → (∀ k, nm s a = .err k → e1 = k) → (∀ n en, nm s a = .ok n en → e1 = 0 ∧ a1 = en ∧ N = n) → alV h11 (.cells #[.string (⟨#[]⟩ : ByteArray), .int .i64 0, .int .i64 0, .string (⟨#[]⟩ : ByteArray)] T_api_DnsRecord) fun t11 h21 => stN h21 t11 [.string (bs N), .int .i64 0, .int .i64 0, .string (⟨#[]⟩ : ByteArray)] 0 fun h22 => CallT Tryd.prog fn_dns_reader_number #[.pointer (some r), .int .i64 2] h22 fun v h23 => ∃ t87 : Int, v = .int .i64 t87 ∧ st1 h23 (Addr.add t11 1) (.int .i64 t87) fun h24 => CallT Tryd.prog fn_dns_reader_class #[.pointer (some r)] h24 fun v h25 => v = .tuple #[] ∧ CallT Tryd.prog fn_dns_reader_number #[.pointer (some r), .int .i64 4] h25 fun v h26 => ∃ t92 : Int, v = .int .i64 t92 ∧ st1 h26 (Addr.add t11 2) (.int .i64 t92) fun h27 => ldI h27 (Addr.add t11 1) .i64 fun t96 => CallT Tryd.prog fn_dns_reader_number #[.pointer (some r), .int .i64 2] h27 fun v h28 => ∃ t98 : Int, v = .int .i64 t98 ∧ (ldI h28 (Addr.add t11 1) .i64 fun t996 => (.int .i64 t996 : Value) = .int .i64 t96) ∧ CallT Tryd.prog fn_dns_reader_data #[.pointer (some r), .int .i64 t96, .int .i64 t98] h28 fun v h29 => ∃ t99 : ByteArray, v = .string t99 ∧ st1 h29 (Addr.add t11 3) (.string t99) fun h30 => ldL h30 (Addr.add d 3) fun t102a t102n t102c => ldS h30 t11 fun t103_0 => ldI h30 (Addr.add t11 1) .i64 fun t103_1 => ldI h30 (Addr.add t11 2) .i64 fun t103_2 => ldS h30 (Addr.add t11 3) fun t103_3 => alV h30 (.cells #[.string t103_0, .int .i64 t103_1, .int .i64 t103_2, .string t103_3] T_api_DnsRecord) fun t104 h31 => bltV Tryd.prog .append #[T_sl_api_DnsRecord, T_sl_api_DnsRecord] T_sl_api_DnsRecord #[false, false] #[.slice t102a t102n t102c, .slice (some t104) 1 1] h31 fun v h32 => ∃ t105a : Option Addr, ∃ t105n : Nat, ∃ t105c : Nat, v = .slice t105a t105n t105c ∧ st1 h32 (Addr.add d 3) (.slice t105a t105n t105c) fun h33 => Kn6 (wrap .i64 ((j : Int) + 1)) h33 := by
      intro h11 e1 a1 N f11 R11 hn1 hn2
      have M11 := M10.call f11 hWr
      refine al_mk (vs := [.string (bs []), .int .i64 0, .int .i64 0, .string (bs [])]) fun t11 h12 f12 e12 o12 => ?_
      have lr11 := R11.lt
      have lt11 := o12.lt
      have ld : d.block < h11.size := by obtain ⟨_, _, _, _, o, _⟩ := M11.od; exact o.lt
      have z12 := f12.size
      refine stN_own o12 (ws := [.string (bs N), .int .i64 0, .int .i64 0, .string (bs [])]) (by rfl) (by rfl) fun h13 f13 _ o13 => ?_
      have M13 : MF h h13 (fun b => b = r.block) t2 d ⟨t16, t18, qs, rs⟩ := M11.fr0 (f12.tr f13 fun b hb hi => by omega)
      have z13 : h12.size ≤ h13.size := f13.size
      -- the record's block is apart from the message
      have own : ∀ {x y : Heap}, MF h x (fun b => b = r.block ∨ b = t11.block) t2 d ⟨t16, t18, qs, rs⟩ → Fr (fun b => b = r.block ∨ b = t11.block) x y → MF h y (fun b => b = r.block ∨ b = t11.block) t2 d ⟨t16, t18, qs, rs⟩ := fun M f => M.call f fun b hb => ⟨hb, by rcases hb with h | h <;> omega⟩
      have MA : MF h h13 (fun b => b = r.block ∨ b = t11.block) t2 d ⟨t16, t18, qs, rs⟩ := by
        obtain ⟨p1, c1, p2, c2, o, S1, S2, i1, i2⟩ := M11.od
        have F : Fr (fun _ => False) h11 h13 := f12.tr f13 fun b hb hi => by omega
        have l2' := M11.o2.lt
        have nw := M11.nw
        exact ⟨M13.fr, M13.o2, ⟨p1, c1, p2, c2, o.fr0 F, S1.fr0 F, S2.fr0 F, fun b hb => ⟨(i1 b hb).1, (i1 b hb).2.1, (i1 b hb).2.2.1, fun h => by have := S1.lt hb; rcases h with h | h; exact (i1 b hb).2.2.2.1 h; omega, (i1 b hb).2.2.2.2⟩, fun b hb => ⟨(i2 b hb).1, (i2 b hb).2.1, (i2 b hb).2.2.1, fun h => by have := S2.lt hb; rcases h with h | h; exact (i2 b hb).2.2.2 h; omega⟩⟩, M11.ge, by omega, by omega⟩
      have R13 := (R11.fr0 f12).fr f13 (by omega)
      have toW : ∀ {x y : Heap}, Fr (fun b => b = r.block) x y → Fr (fun b => b = r.block ∨ b = t11.block) x y := fun f => f.mono fun _ h => .inl h
      have toT : ∀ {x y : Heap}, Fr (fun b => b = t11.block) x y → Fr (fun b => b = r.block ∨ b = t11.block) x y := fun f => f.mono fun _ h => .inr h
      have hrt : t11.block ≠ r.block := by omega
      refine number_c R13 2 (by omega) fun T h14 f14 R14 g14 => ⟨_, rfl, ?_⟩
      refine st1_own (o13.fr f14 hrt) 1 (by simp) rfl fun h15 f15 _ o15 => ?_
      have R15 := R14.fr f15 hrt.symm
      refine class_c R15 fun h16 f16 R16 => ⟨rfl, ?_⟩
      have Q3 := qflow (s := s) (a := a) (T := T) hn1 hn2 (fun h => g14 h)
      refine number_c R16 4 (by omega) fun L h17 f17 R17 g17 => ⟨_, rfl, ?_⟩
      refine st1_own ((o15.fr f16 hrt).fr f17 hrt) 2 (by simp) rfl fun h18 f18 _ o18 => ?_
      have R18 := R17.fr f18 hrt.symm
      refine ldI_mk (o18.cells.at (j := 1) rfl) ?_
      refine number_c R18 2 (by omega) fun n98 h19 f19 R19 g19 => ⟨_, rfl, ldI_mk ((o18.fr f19 hrt).cells.at (j := 1) rfl) rfl, ?_⟩
      have hnl := num2_lt s (numS s 4 (clS s (numS s 2 e1 a1).1 (numS s 2 e1 a1).2).1 (clS s (numS s 2 e1 a1).1 (numS s 2 e1 a1).2).2).2
      refine data_c R19 T n98 (num s (numS s 4 (clS s (numS s 2 e1 a1).1 (numS s 2 e1 a1).2).1 (clS s (numS s 2 e1 a1).1 (numS s 2 e1 a1).2).2).2 2) (fun h => g19 h) hnl fun D h20 e6 a6 f20 R20 d1 d2 => ⟨_, rfl, ?_⟩
      have RF := rflow (s := s) (a := a) (N := N) (T := T) (L := L) (D := D) (nn := num s (numS s 4 (clS s (numS s 2 e1 a1).1 (numS s 2 e1 a1).2).1 (clS s (numS s 2 e1 a1).1 (numS s 2 e1 a1).2).2).2 2) (e6 := e6) (a6 := a6) Q3.1 Q3.2 (fun h => g17 h) (fun _ => rfl) d1 d2
      refine st1_own ((o18.fr f19 hrt).fr f20 hrt) 3 (by simp) rfl fun h21 f21 _ o21 => ?_
      have FT : Fr (fun b => b = r.block ∨ b = t11.block) h13 h21 := ((((((((toW f14).trans (toT f15)).trans (toW f16)).trans (toW f17)).trans (toT f18)).trans (toW f19)).trans (toW f20)).trans (toT f21))
      have M21 := own MA FT
      have R21 := R20.fr f21 hrt.symm
      refine M21.cellR fun p n c hc => ?_
      have cc := o21.cells
      refine ldS_mk (cc.at0 rfl) (ldI_mk (cc.at (j := 1) rfl) (ldI_mk (cc.at (j := 2) rfl) (ldS_mk (cc.at (j := 3) rfl) ?_)))
      refine al_mk (vs := (⟨N, T, L, D⟩ : Re).vals) fun t104 h22 f22 e22 o22 => ?_
      have z21 := FT.size
      have z22 := f22.size
      refine (M21.fr0 f22).pushR (by show rs.length ≤ _; omega) (fun b hb => by rcases hb with h | h <;> omega) (f22.hcell hc id) o22 fun h23 M23 f23 => ?_
      have R23 := (R21.fr0 f22).fr f23 fun h => h (.inl rfl)
      have M23' : MF h h23 (fun b => b = r.block) t2 d ⟨t16, t18, qs, rs ++ [⟨N, T, L, D⟩]⟩ := by
        obtain ⟨p1, c1, p2, c2, o, S1, S2, i1, i2⟩ := M23.od
        exact ⟨M23.fr, M23.o2, ⟨p1, c1, p2, c2, o, S1, S2, fun b hb => ⟨(i1 b hb).1, (i1 b hb).2.1, (i1 b hb).2.2.1, fun h => (i1 b hb).2.2.2.1 (.inl h), (i1 b hb).2.2.2.2⟩, fun b hb => ⟨(i2 b hb).1, (i2 b hb).2.1, (i2 b hb).2.2.1, fun h => (i2 b hb).2.2.2 (.inl h)⟩⟩, M23.ge, fun h => M23.nw.1 (.inl h), fun h => M23.nw.2 (.inl h)⟩
      rw [wr (by omega) (by omega)]
      have derr : ∀ k2, recordS s a = .err k2 → decodeS s = .err k2 := fun k2 hr2 => by
        unfold decodeS
        rw [if_neg (by omega), if_neg (by omega), q7]
        simp only
        rw [q3, hr2]
      refine hK6 (33 - (j + 1)) _ _ (by omega) ⟨j + 1, e6, a6, _, rfl, by omega, rfl, by simp [hrs], M23', R23, fun h => ?_, fun h => ?_⟩
      · cases hr2 : recordS s a with
        | err k2 => have := RF.1 k2 hr2; subst this; exact derr _ hr2
        | ok x p => exact absurd (RF.2 x p hr2).1 h
      · cases hr2 : recordS s a with
        | err k2 => have := RF.1 k2 hr2; subst this; exact absurd h (recordS_err hr2)
        | ok x p =>
          obtain ⟨_, r2, r3⟩ := RF.2 x p hr2
          subst r2 r3
          refine ⟨q1, by omega, ?_⟩
          rw [q3, hr2, show num s 6 2 + num s 8 2 + num s 10 2 - (j + 1) = k by omega]
    refine name_c R10 (fun h => absurd rfl h) (fun _ k hk hk0 h11 a1 f11 R11 => ⟨_, rfl, step f11 R11 (fun k2 h => by have h1 : nm s a = .err k := hk; rw [h1] at h; cases h; rfl) fun n en h => by have h1 : nm s a = .err k := hk; rw [h1] at h; cases h⟩) fun _ n en hk h11 f11 R11 => ⟨_, rfl, step f11 R11 (fun k2 h => by have h1 : nm s a = .ok n en := hk; rw [h1] at h; cases h) fun n2 en2 h => by have h1 : nm s a = .ok n en := hk; rw [h1] at h; cases h; exact ⟨rfl, rfl, rfl⟩⟩
  have qst : ∀ {h9 : Heap} {e9 : Int}, MF h h9 (fun b => b = r.block) t2 d ⟨t16, t18, [], []⟩ → RdF h9 r s e9 a' → (e9 ≠ 0 → decodeS s = .err e9) → (e9 = 0 → e' = 0 ∧ ans ≤ 32 ∧ t21 ≤ 8) → dns_Decode_b3 (bs s) t2 r d t21 ans Q h9 := by
    intro h9 e9 M9 R9 hb9 hg9
    unfold dns_Decode_b3
    refine LoopV.go (fun n st h' => ∃ (j : Nat) (e : Int) (a : Nat) (qs : List Qu), st = (j : Int) ∧ j ≤ 8 ∧ n = 9 - j ∧ qs.length = j ∧ MF h h' (fun b => b = r.block) t2 d ⟨t16, t18, qs, []⟩ ∧ RdF h' r s e a ∧ (e ≠ 0 → decodeS s = .err e) ∧ (e = 0 → e9 = 0 ∧ (j : Int) ≤ t21 ∧ manyS (questionS s) (num s 4 2) 12 = pre qs (manyS (questionS s) (num s 4 2 - j) a))) 9 ⟨0, e9, a', [], rfl, by omega, rfl, rfl, M9, R9, hb9, fun h => ⟨h, by have := (hans (hg9 h).1).2.2.2.1; omega, by rw [pre_nil, (hans (hg9 h).1).2.2.2.2.2]; rfl⟩⟩ ?_
    rintro n2 - h10 ⟨j, e, a, qs, rfl, hj, hn2, hqs, M10, R10, hb10, hg10⟩ Kn4 hK4
    unfold dns_Decode_l4
    have fin : (e = 0 → t21 ≤ (j : Int)) → dns_Decode_b5 (bs s) t2 r d ans Q h10 := fun hfin => by
      refine rcd M10 R10 hb10 fun h => ?_
      obtain ⟨q1, q2, q3⟩ := hg10 h
      obtain ⟨q4, q5, q6⟩ := hg9 q1
      obtain ⟨c1, c2, c3, c4, c5, c6⟩ := hans q4
      have hf := hfin h
      refine ⟨q4, q5, q6, ?_⟩
      have hz : num s 4 2 - j = 0 := by omega
      rw [hz] at q3
      rw [q3]; show Rs.ok (qs ++ []) a = _; rw [List.append_nil]
    refine ifD (fun e2 => ?_) fun e2 => fin fun _ => by omega
    refine R10.err (ifE (fun e3 => ?_) fun e3 => fin fun h => absurd h e3)
    subst e3
    obtain ⟨q1, q2, q3⟩ := hg10 rfl
    obtain ⟨q4, q5, q6⟩ := hg9 q1
    obtain ⟨c1, c2, c3, c4, c5, c6⟩ := hans q4
    obtain ⟨k, hk'⟩ : ∃ k, num s 4 2 - j = k + 1 := ⟨num s 4 2 - j - 1, by omega⟩
    rw [hk', pre_many] at q3
    have step : ∀ {h11 : Heap} {e1 : Int} {a1 : Nat} {N : Nm}, Fr (fun b => b = r.block) h10 h11 → RdF h11 r s e1 a1 → (∀ k, nm s a = .err k → e1 = k) → (∀ n en, nm s a = .ok n en → e1 = 0 ∧ a1 = en ∧ N = n) → alV h11 (.cells #[.string (⟨#[]⟩ : ByteArray), .int .i64 0] T_api_DnsQuestion) fun t9 h12 => stN h12 t9 [.string (bs N), .int .i64 0] 0 fun h13 => CallT Tryd.prog fn_dns_reader_number #[.pointer (some r), .int .i64 2] h13 fun v h14 => ∃ t61 : Int, v = .int .i64 t61 ∧ st1 h14 (Addr.add t9 1) (.int .i64 t61) fun h15 => CallT Tryd.prog fn_dns_reader_class #[.pointer (some r)] h15 fun v h16 => v = .tuple #[] ∧ ldL h16 (Addr.add d 2) fun t66a t66n t66c => ldS h16 t9 fun t67_0 => ldI h16 (Addr.add t9 1) .i64 fun t67_1 => alV h16 (.cells #[.string t67_0, .int .i64 t67_1] T_api_DnsQuestion) fun t68 h17 => bltV Tryd.prog .append #[T_sl_api_DnsQuestion, T_sl_api_DnsQuestion] T_sl_api_DnsQuestion #[false, false] #[.slice t66a t66n t66c, .slice (some t68) 1 1] h17 fun v h18 => ∃ t69a : Option Addr, ∃ t69n : Nat, ∃ t69c : Nat, v = .slice t69a t69n t69c ∧ st1 h18 (Addr.add d 2) (.slice t69a t69n t69c) fun h19 => Kn4 (wrap .i64 ((j : Int) + 1)) h19 := by
      intro h11 e1 a1 N f11 R11 hn1 hn2
      have M11 := M10.call f11 hWr
      refine al_mk (vs := [.string (bs []), .int .i64 0]) fun t11 h12 f12 e12 o12 => ?_
      have lr11 := R11.lt
      have lt11 := o12.lt
      have ld : d.block < h11.size := by obtain ⟨_, _, _, _, o, _⟩ := M11.od; exact o.lt
      have z12 := f12.size
      refine stN_own o12 (ws := [.string (bs N), .int .i64 0]) (by rfl) (by rfl) fun h13 f13 _ o13 => ?_
      have z13 : h12.size ≤ h13.size := f13.size
      have MA : MF h h13 (fun b => b = r.block ∨ b = t11.block) t2 d ⟨t16, t18, qs, []⟩ := by
        obtain ⟨p1, c1, p2, c2, o, S1, S2, i1, i2⟩ := M11.od
        have F : Fr (fun _ => False) h11 h13 := f12.tr f13 fun b hb hi => by omega
        have l2' := M11.o2.lt
        have nw := M11.nw
        exact ⟨M11.fr.trans F, M11.o2.fr0 F, ⟨p1, c1, p2, c2, o.fr0 F, S1.fr0 F, S2.fr0 F, fun b hb => ⟨(i1 b hb).1, (i1 b hb).2.1, (i1 b hb).2.2.1, fun h => by have := S1.lt hb; rcases h with h | h; exact (i1 b hb).2.2.2.1 h; omega, (i1 b hb).2.2.2.2⟩, fun b hb => ⟨(i2 b hb).1, (i2 b hb).2.1, (i2 b hb).2.2.1, fun h => by have := S2.lt hb; rcases h with h | h; exact (i2 b hb).2.2.2 h; omega⟩⟩, M11.ge, by omega, by omega⟩
      have R13 := (R11.fr0 f12).fr f13 (by omega)
      have toW : ∀ {x y : Heap}, Fr (fun b => b = r.block) x y → Fr (fun b => b = r.block ∨ b = t11.block) x y := fun f => f.mono fun _ h => .inl h
      have toT : ∀ {x y : Heap}, Fr (fun b => b = t11.block) x y → Fr (fun b => b = r.block ∨ b = t11.block) x y := fun f => f.mono fun _ h => .inr h
      have hrt : t11.block ≠ r.block := by omega
      refine number_c R13 2 (by omega) fun T h14 f14 R14 g14 => ⟨_, rfl, ?_⟩
      refine st1_own (o13.fr f14 hrt) 1 (by simp) rfl fun h15 f15 _ o15 => ?_
      have R15 := R14.fr f15 hrt.symm
      refine class_c R15 fun h16 f16 R16 => ⟨rfl, ?_⟩
      have Q3 := qflow (s := s) (a := a) (T := T) hn1 hn2 (fun h => g14 h)
      have FT : Fr (fun b => b = r.block ∨ b = t11.block) h13 h16 := ((toW f14).trans (toT f15)).trans (toW f16)
      have M21 := MA.call FT fun b hb => ⟨hb, by rcases hb with h | h <;> omega⟩
      have o21 := o15.fr f16 hrt
      refine M21.cellQ fun p n c hc => ?_
      have cc := o21.cells
      refine ldS_mk (cc.at0 rfl) (ldI_mk (cc.at (j := 1) rfl) ?_)
      refine al_mk (vs := (⟨N, T⟩ : Qu).vals) fun t104 h22 f22 e22 o22 => ?_
      have z21 := FT.size
      have z22 := f22.size
      refine (M21.fr0 f22).pushQ (by show qs.length ≤ _; omega) (fun b hb => by rcases hb with h | h <;> omega) (f22.hcell hc id) o22 fun h23 M23 f23 => ?_
      have R23 := (R16.fr0 f22).fr f23 fun h => h (.inl rfl)
      have M23' : MF h h23 (fun b => b = r.block) t2 d ⟨t16, t18, qs ++ [⟨N, T⟩], []⟩ := by
        obtain ⟨p1, c1, p2, c2, o, S1, S2, i1, i2⟩ := M23.od
        exact ⟨M23.fr, M23.o2, ⟨p1, c1, p2, c2, o, S1, S2, fun b hb => ⟨(i1 b hb).1, (i1 b hb).2.1, (i1 b hb).2.2.1, fun h => (i1 b hb).2.2.2.1 (.inl h), (i1 b hb).2.2.2.2⟩, fun b hb => ⟨(i2 b hb).1, (i2 b hb).2.1, (i2 b hb).2.2.1, fun h => (i2 b hb).2.2.2 (.inl h)⟩⟩, M23.ge, fun h => M23.nw.1 (.inl h), fun h => M23.nw.2 (.inl h)⟩
      rw [wr (by omega) (by omega)]
      have derr : ∀ k2, questionS s a = .err k2 → decodeS s = .err k2 := fun k2 hr2 => by
        unfold decodeS
        rw [if_neg (by omega), if_neg (by omega), q3, hr2]
      refine hK4 (9 - (j + 1)) _ _ (by omega) ⟨j + 1, _, _, _, rfl, by omega, rfl, by simp [hqs], M23', R23, fun h => ?_, fun h => ?_⟩
      · cases hr2 : questionS s a with
        | err k2 => have := Q3.1 k2 hr2; rw [this]; exact derr _ hr2
        | ok x p => exact absurd (Q3.2 x p hr2).1 h
      · cases hr2 : questionS s a with
        | err k2 => have := Q3.1 k2 hr2; rw [this] at h; exact absurd h (questionS_err hr2)
        | ok x p =>
          obtain ⟨_, r2, r3⟩ := Q3.2 x p hr2
          rw [r2, r3]
          refine ⟨q1, by omega, ?_⟩
          rw [q3, hr2, show num s 4 2 - (j + 1) = k by omega]
    refine name_c R10 (fun h => absurd rfl h) (fun _ k hk hk0 h11 a1 f11 R11 => ⟨_, rfl, step f11 R11 (fun k2 h => by have h1 : nm s a = .err k := hk; rw [h1] at h; cases h; rfl) fun n en h => by have h1 : nm s a = .err k := hk; rw [h1] at h; cases h⟩) fun _ n en hk h11 f11 R11 => ⟨_, rfl, step f11 R11 (fun k2 h => by have h1 : nm s a = .ok n en := hk; rw [h1] at h; cases h) fun n2 en2 h => by have h1 : nm s a = .ok n en := hk; rw [h1] at h; cases h; exact ⟨rfl, rfl, rfl⟩⟩
  unfold dns_Decode_b2
  refine R8.err (ifE (fun e2 => ?_) fun e2 => qst M8 R8 (fun h => by obtain ⟨q1, q2⟩ := hb h; rw [q1]; exact sh q2) fun h => absurd h e2)
  obtain ⟨c1, c2, c3, c4, c5, c6⟩ := hans e2
  have long : (num s 4 2 > 8 ∨ num s 6 2 + num s 8 2 + num s 10 2 > 32) → st1 h8 (Addr.add r 2) (.int .i64 3) fun h9 => dns_Decode_b3 (bs s) t2 r d t21 ans Q h9 := fun hl => by
    refine R8.setErr (by decide) fun h9 f9 R9 => qst (M8.call f9 hWr) R9 (fun _ => ?_) fun h => absurd h (by decide)
    unfold decodeS; rw [if_neg (by omega), if_pos hl]
  refine ifD (fun e3 => long (by omega)) fun e3 => ifD (fun e4 => long (by omega)) fun e4 => ?_
  exact qst M8 R8 (fun h => absurd e2 h) fun _ => ⟨e2, by omega, by omega⟩
end Go.Proofs.YtmjbcnbjedipdaaDoor
/-!
  The check of a message that is to be written: the program's and the reference's.
-/
namespace Go.Proofs.YtmjbcnbjedipdaaDoor
set_option linter.unusedSimpArgs false
set_option linter.unusedVariables false
set_option maxRecDepth 20000
open Go
open Go.IntKind (wrap)
def wordB (n : Int) : Bool := decide (0 ≤ n ∧ n ≤ 65535)
def namedB (k : Int) (s : Nm) : Bool := if skipI k < 0 then true else decide ((skipI k).toNat ≤ s.length) && isNameB (s.drop (skipI k).toNat)
def qE (q : Qu) : Int := if isNameB q.Name = false then 5 else if wordB q.Type_ = false then 4 else 0
def rE (x : Re) : Int := if isNameB x.Name = false then 5 else if wordB x.Type_ = false ∨ x.Ttl < 0 ∨ x.Ttl > 4294967295 then 4 else if namedB x.Type_ x.Data = false then 5 else if x.Data.length > 65535 then 3 else 0
def firstE {α : Type} (f : α → Int) : List α → Int
  | [] => 0
  | x :: l => if f x ≠ 0 then f x else firstE f l
def checkS (id fl : Int) (qs : List Qu) (rs : List Re) : Int :=
  if qs.length > 8 ∨ rs.length > 32 then 3 else if wordB id = false ∨ wordB fl = false then 4 else if firstE qE qs ≠ 0 then firstE qE qs else firstE rE rs
theorem firstE_drop {α : Type} {f : α → Int} {l : List α} {i : Nat} (h : i < l.length) : firstE f (l.drop i) = if f l[i] ≠ 0 then f l[i] else firstE f (l.drop (i + 1)) := by
  rw [List.drop_eq_getElem_cons h]; rfl
theorem word_c [Gh] (n : Int) {h : Heap} {Q : Value → Heap → Prop} (hk : Q (.bool (wordB n)) h) : CallT Tryd.prog fn_dns_word #[.int .i64 n] h Q := by
  apply dns_word_s
  unfold dns_word_v
  unfold wordB at hk
  refine ifD (fun e => ?_) fun e => ?_
  · refine Qeq hk ?_; congr 1; rw [decide_eq_decide]; omega
  · rw [decide_eq_false (by omega)] at hk; exact hk
theorem rword_c [Gh] (n : Int) {h : Heap} {Q : Value → Heap → Prop} (hk : Q (.bool (wordB n)) h) : CallT Tryd.prog fn_ref29_word #[.int .i64 n] h Q := by
  apply ref29_word_s
  unfold ref29_word_v
  unfold wordB at hk
  refine ifD (fun e => ?_) fun e => ?_
  · refine Qeq hk ?_; congr 1; rw [decide_eq_decide]; omega
  · rw [decide_eq_false (by omega)] at hk; exact hk
theorem isNamed_c [Gh] (k : Int) (s : Nm) (hs : s.length ≤ 2 ^ 28) {h : Heap} {Q : Value → Heap → Prop} (hk : ∀ h', Fr (fun _ => False) h h' → Q (.bool (namedB k s)) h') : CallT Tryd.prog fn_dns_named #[.int .i64 k, .string (bs s)] h Q := by
  apply dns_named_s
  unfold dns_named_v
  unfold namedB at hk
  have plain : skipI k = 0 → CallT Tryd.prog fn_dns_IsName #[.string (bs s)] h fun v h2 => ∃ t21 : Bool, v = .bool t21 ∧ Q (.bool t21) h2 := fun hs0 => by
    rw [hs0, if_neg (by decide)] at hk
    have e : decide ((0 : Int).toNat ≤ s.length) = true := decide_eq_true (by simp)
    rw [e, Bool.true_and] at hk
    exact isName_c s (by omega) fun h' f => ⟨_, rfl, hk h' f⟩
  refine ifE (fun e => ?_) fun e => ?_
  · have hs2 : skipI k = 2 := by unfold skipI; rw [if_neg (by omega), if_pos e]
    rw [hs2, if_neg (by decide)] at hk
    rw [bs_size]
    refine ifD (fun e1 => ?_) fun e1 => ?_
    · refine slF s 2 rfl (by omega) ?_
      have e2 : decide ((2 : Int).toNat ≤ s.length) = true := decide_eq_true (by show 2 ≤ _; omega)
      rw [e2, Bool.true_and] at hk
      exact isName_c _ (by rw [List.length_drop]; omega) fun h' f => ⟨_, rfl, hk h' f⟩
    · have e2 : decide ((2 : Int).toNat ≤ s.length) = false := decide_eq_false (by show ¬ 2 ≤ _; omega)
      rw [e2, Bool.false_and] at hk
      exact hk h (Fr.refl _ _)
  refine ifE (fun e2 => ?_) fun e2 => ?_
  · rw [if_pos (by simpa using e2)]
    exact plain (by unfold skipI; rw [if_pos (by omega)])
  refine ifE (fun e3 => ?_) fun e3 => ?_
  · rw [if_pos (by simpa using e3)]
    exact plain (by unfold skipI; rw [if_pos (by omega)])
  refine ifE (fun e4 => ?_) fun e4 => ?_
  · exact plain (by unfold skipI; rw [if_pos (by omega)])
  · rw [if_pos (by unfold skipI; rw [if_neg (by omega), if_neg (by omega)]; decide)] at hk
    exact hk h (Fr.refl _ _)
section
variable {h : Heap} {id fl : Int} {u : Sl Qu} {w : Sl Re} {Q : Value → Heap → Prop}
theorem check_c [Gh] (ou : SlOk 2 S_api_DnsQuestion.vals S_api_DnsQuestion.ok h u) (ow : SlOk 4 S_api_DnsRecord.vals S_api_DnsRecord.ok h w) (hq : ∀ q ∈ u.xs, q.Name.length ≤ 2 ^ 20) (hr : ∀ r ∈ w.xs, r.Name.length ≤ 2 ^ 20 ∧ r.Data.length ≤ 2 ^ 20)
    (hk : ∀ h', Fr (fun _ => False) h h' → Q (.int .i64 (checkS id fl u.xs w.xs)) h') : CallT Tryd.prog fn_dns_check #[.agg #[.int .i64 id, .int .i64 fl, .slice u.p u.xs.length u.cap, .slice w.p w.xs.length w.cap]] h Q := by
  apply dns_check_s
  unfold dns_check_v
  unfold checkS at hk
  refine al_mk (vs := [.int .i64 id, .int .i64 fl, .slice u.p u.xs.length u.cap, .slice w.p w.xs.length w.cap]) fun t1 h1 f1 e1 o1 => ?_
  have c := o1.cells
  refine ldL_mk (c.at (j := 2) rfl) (ifD (fun e => ?_) fun e => ?_)
  · rw [if_pos (.inl (by omega))] at hk; exact hk h1 f1
  refine ldL_mk (c.at (j := 3) rfl) (ifD (fun e' => ?_) fun e' => ?_)
  · rw [if_pos (.inr (by omega))] at hk; exact hk h1 f1
  rw [if_neg (by omega)] at hk
  refine ldI_mk (c.at0 rfl) (word_c id ⟨_, rfl, ifN (fun e2 => ?_) fun e2 => ?_⟩)
  · rw [if_pos (.inl e2)] at hk; exact hk h1 f1
  refine ldI_mk (c.at (j := 1) rfl) (word_c fl ⟨_, rfl, ifN (fun e3 => ?_) fun e3 => ?_⟩)
  · rw [if_pos (.inr e3)] at hk; exact hk h1 f1
  rw [if_neg (by rw [e2, e3]; decide)] at hk
  refine ldL_mk (c.at (j := 2) rfl) ?_
  refine LoopV.go (fun n st h' => ∃ i : Nat, st = (i : Int) ∧ i ≤ u.xs.length ∧ n = u.xs.length - i ∧ Fr (fun _ => False) h1 h' ∧ firstE qE u.xs = firstE qE (u.xs.drop i)) u.xs.length ⟨0, rfl, by omega, rfl, Fr.refl _ _, rfl⟩ ?_
  rintro n - h2 ⟨i, rfl, hi, rfl, f2, hf⟩ Kn hK
  have F2 := f1.trans f2
  unfold dns_check_l1
  refine ifD (fun e4 => ?_) fun e4 => ?_
  · have hlt : i < u.xs.length := by omega
    rw [firstE_drop hlt] at hf
    have hql := hq _ (List.getElem_mem hlt)
    refine idx_sl (SlOk.fr0 S_api_DnsQuestion.ok_fr F2 ou) i rfl hlt fun ad cc _ => ?_
    have cc : Cells h2 (ad.add (i * 2)) [.string (bs u.xs[i].Name), .int .i64 u.xs[i].Type_] := cc
    rw [Int.toNat_natCast]
    obtain ⟨v, hv⟩ : ∃ v, v = qE u.xs[i] := ⟨_, rfl⟩
    rw [← hv] at hf
    unfold qE at hv
    generalize u.xs[i] = q at *
    refine ldS_mk (cc.at0 rfl) (ldI_mk (cc.at (j := 1) rfl) ?_)
    refine al_mk (vs := [.string (bs []), .int .i64 0]) fun t4 h3 f3 e3' o3 => ?_
    refine stN_own o3 (ws := [.string (bs q.Name), .int .i64 q.Type_]) (by rfl) (by rfl) fun h4 f4 _ o4 => ?_
    have F4 : Fr (fun _ => False) h1 h4 := f2.trans (f3.tr f4 fun b hb hi => by omega)
    refine ldS_mk (o4.cells.at0 rfl) (isName_c q.Name (by omega) fun h5 f5 => ⟨_, rfl, ?_⟩)
    have F5 := f1.trans (F4.trans f5)
    refine ifN (fun e5 => ?_) fun e5 => ?_
    · rw [if_pos e5] at hv; subst hv; rw [if_pos (by decide)] at hf
      rw [hf, if_pos (by decide)] at hk; exact hk h5 F5
    rw [if_neg (by rw [e5]; decide)] at hv
    refine ldI_mk ((o4.fr0 f5).cells.at (j := 1) rfl) (word_c _ ⟨_, rfl, ifN (fun e6 => ?_) fun e6 => ?_⟩)
    · rw [if_pos e6] at hv; subst hv; rw [if_pos (by decide)] at hf
      rw [hf, if_pos (by decide)] at hk; exact hk h5 F5
    rw [if_neg (by rw [e6]; decide)] at hv; subst hv; rw [if_neg (by decide)] at hf
    rw [wr (by omega) (by omega)]
    exact hK (u.xs.length - (i + 1)) _ _ (by omega) ⟨i + 1, rfl, hlt, rfl, F4.trans f5, hf⟩
  have hf0 : firstE qE u.xs = 0 := by rw [hf, List.drop_eq_nil_of_le (by omega)]; rfl
  rw [hf0, if_neg (by decide)] at hk
  unfold dns_check_b2
  refine ldL_mk ((o1.fr0 f2).cells.at (j := 3) rfl) ?_
  clear hf hf0
  refine LoopV.go (fun n st h' => ∃ i : Nat, st = (i : Int) ∧ i ≤ w.xs.length ∧ n = w.xs.length - i ∧ Fr (fun _ => False) h2 h' ∧ firstE rE w.xs = firstE rE (w.xs.drop i)) w.xs.length ⟨0, rfl, by omega, rfl, Fr.refl _ _, rfl⟩ ?_
  rintro n - h3 ⟨i, rfl, hi, rfl, f3, hf⟩ Kn hK
  have F3 := F2.trans f3
  unfold dns_check_l3
  refine ifD (fun e4 => ?_) fun e4 => ?_
  · have hlt : i < w.xs.length := by omega
    rw [firstE_drop hlt] at hf
    have hrl := hr _ (List.getElem_mem hlt)
    refine idx_sl (SlOk.fr0 S_api_DnsRecord.ok_fr F3 ow) i rfl hlt fun ad cc _ => ?_
    have cc : Cells h3 (ad.add (i * 4)) [.string (bs w.xs[i].Name), .int .i64 w.xs[i].Type_, .int .i64 w.xs[i].Ttl, .string (bs w.xs[i].Data)] := cc
    rw [Int.toNat_natCast]
    obtain ⟨v, hv⟩ : ∃ v, v = rE w.xs[i] := ⟨_, rfl⟩
    rw [← hv] at hf
    unfold rE at hv
    generalize w.xs[i] = x at *
    refine ldS_mk (cc.at0 rfl) (ldI_mk (cc.at (j := 1) rfl) (ldI_mk (cc.at (j := 2) rfl) (ldS_mk (cc.at (j := 3) rfl) ?_)))
    refine al_mk (vs := [.string (bs []), .int .i64 0, .int .i64 0, .string (bs [])]) fun t6 h4 f4 e4' o4 => ?_
    refine stN_own o4 (ws := [.string (bs x.Name), .int .i64 x.Type_, .int .i64 x.Ttl, .string (bs x.Data)]) (by rfl) (by rfl) fun h5 f5 _ o5 => ?_
    have F5 : Fr (fun _ => False) h2 h5 := f3.trans (f4.tr f5 fun b hb hi => by omega)
    refine ldS_mk (o5.cells.at0 rfl) (isName_c x.Name (by omega) fun h6 f6 => ⟨_, rfl, ?_⟩)
    have F6 := F2.trans (F5.trans f6)
    have o6 := o5.fr0 f6
    have c6 := o6.cells
    refine ifN (fun e5 => ?_) fun e5 => ?_
    · rw [if_pos e5] at hv; subst hv; rw [if_pos (by decide)] at hf
      rw [hf] at hk; exact hk h6 F6
    rw [if_neg (by rw [e5]; decide)] at hv
    have four : (wordB x.Type_ = false ∨ x.Ttl < 0 ∨ x.Ttl > 4294967295) → Q (.int .i64 4) h6 := fun hb => by
      rw [if_pos hb] at hv; subst hv; rw [if_pos (by decide)] at hf
      rw [hf] at hk; exact hk h6 F6
    have b4 : ¬ (wordB x.Type_ = false ∨ x.Ttl < 0 ∨ x.Ttl > 4294967295) → dns_check_b4 t6 w.p w.xs.length w.cap ((w.xs.length : Nat) : Int) (i : Int) Q Kn h6 := fun hb => by
      rw [if_neg hb] at hv
      unfold dns_check_b4
      refine ldI_mk (c6.at (j := 1) rfl) (ldS_mk (c6.at (j := 3) rfl) (isNamed_c x.Type_ x.Data (by omega) fun h7 f7 => ⟨_, rfl, ?_⟩))
      refine ifN (fun e7 => ?_) fun e7 => ?_
      · rw [if_pos e7] at hv; subst hv; rw [if_pos (by decide)] at hf
        rw [hf] at hk; exact hk h7 (F6.trans f7)
      rw [if_neg (by rw [e7]; decide)] at hv
      refine ldS_mk ((c6.fr0 f7).at (j := 3) rfl) ?_
      rw [bs_size]
      refine ifD (fun e8 => ?_) fun e8 => ?_
      · rw [if_pos (by omega)] at hv; subst hv; rw [if_pos (by decide)] at hf
        rw [hf] at hk; exact hk h7 (F6.trans f7)
      rw [if_neg (by omega)] at hv; subst hv; rw [if_neg (by decide)] at hf
      rw [wr (by omega) (by omega)]
      exact hK (w.xs.length - (i + 1)) _ _ (by omega) ⟨i + 1, rfl, hlt, rfl, (F5.trans f6).trans f7, hf⟩
    refine ldI_mk (c6.at (j := 1) rfl) (word_c _ ⟨_, rfl, ifN (fun e6 => ?_) fun e6 => ?_⟩)
    · rw [if_pos (by rw [e6]; rfl)]; exact four (.inl e6)
    refine ldI_mk (c6.at (j := 2) rfl) (ifD (fun e7 => ?_) fun e7 => ?_)
    · rw [if_pos (by simpa using e7)]; exact four (.inr (.inl e7))
    refine ldI_mk (c6.at (j := 2) rfl) (ifD (fun e8 => four (.inr (.inr e8))) fun e8 => b4 ?_)
    rw [e6]
    exact fun h => by rcases h with h | h | h; cases h; exact e7 h; exact e8 h
  rw [hf, List.drop_eq_nil_of_le (by omega)] at hk
  exact hk h3 F3
theorem rcheck_c [Gh] (ou : SlOk 2 S_api_DnsQuestion.vals S_api_DnsQuestion.ok h u) (ow : SlOk 4 S_api_DnsRecord.vals S_api_DnsRecord.ok h w)
    (hk : ∀ h', Fr (fun _ => False) h h' → Q (.int .i64 (checkS id fl u.xs w.xs)) h') : CallT Tryd.prog fn_ref29_check #[.agg #[.int .i64 id, .int .i64 fl, .slice u.p u.xs.length u.cap, .slice w.p w.xs.length w.cap]] h Q := by
  apply ref29_check_s
  unfold ref29_check_v
  unfold checkS at hk
  refine al_mk (vs := [.int .i64 id, .int .i64 fl, .slice u.p u.xs.length u.cap, .slice w.p w.xs.length w.cap]) fun t1 h1 f1 e1 o1 => ?_
  have c := o1.cells
  refine ldL_mk (c.at (j := 2) rfl) (ifD (fun e => ?_) fun e => ?_)
  · rw [if_pos (.inl (by omega))] at hk; exact hk h1 f1
  refine ldL_mk (c.at (j := 3) rfl) (ifD (fun e' => ?_) fun e' => ?_)
  · rw [if_pos (.inr (by omega))] at hk; exact hk h1 f1
  rw [if_neg (by omega)] at hk
  refine ldI_mk (c.at0 rfl) (rword_c id ⟨_, rfl, ifN (fun e2 => ?_) fun e2 => ?_⟩)
  · rw [if_pos (.inl e2)] at hk; exact hk h1 f1
  refine ldI_mk (c.at (j := 1) rfl) (rword_c fl ⟨_, rfl, ifN (fun e3 => ?_) fun e3 => ?_⟩)
  · rw [if_pos (.inr e3)] at hk; exact hk h1 f1
  rw [if_neg (by rw [e2, e3]; decide)] at hk
  refine LoopV.go (fun n st h' => ∃ i : Nat, st = (i : Int) ∧ i ≤ u.xs.length ∧ n = u.xs.length - i ∧ Fr (fun _ => False) h1 h' ∧ firstE qE u.xs = firstE qE (u.xs.drop i)) u.xs.length ⟨0, rfl, by omega, rfl, Fr.refl _ _, rfl⟩ ?_
  rintro n - h2 ⟨i, rfl, hi, rfl, f2, hf⟩ Kn hK
  have F2 := f1.trans f2
  unfold ref29_check_l1
  have c2 := (o1.fr0 f2).cells
  refine ldL_mk (c2.at (j := 2) rfl) (ifD (fun e4 => ?_) fun e4 => ?_)
  · have hlt : i < u.xs.length := by omega
    rw [firstE_drop hlt] at hf
    refine ldL_mk (c2.at (j := 2) rfl) ?_
    obtain ⟨ad, hp, cc, _⟩ := (SlOk.fr0 S_api_DnsQuestion.ok_fr F2 ou).at_ i hlt
    have cc : Cells h2 (ad.add (i * 2)) [.string (bs u.xs[i].Name), .int .i64 u.xs[i].Type_] := cc
    have ix : ∀ {K : Addr → Prop}, K ad → idxA (i : Int) u.xs.length (nn u.p fun a => K a) := fun hK => idxA_mk i rfl hlt (by rw [hp]; exact nn_mk hK)
    obtain ⟨v, hv⟩ : ∃ v, v = qE u.xs[i] := ⟨_, rfl⟩
    rw [← hv] at hf
    unfold qE at hv
    generalize u.xs[i] = q at *
    refine ix ?_
    rw [Int.toNat_natCast]
    refine ldS_mk (cc.at0 rfl) (rIsName_c q.Name fun h5 f5 => ⟨_, rfl, ?_⟩)
    have F5 := F2.trans f5
    refine ifN (fun e5 => ?_) fun e5 => ?_
    · rw [if_pos e5] at hv; subst hv; rw [if_pos (by decide)] at hf
      rw [hf, if_pos (by decide)] at hk; exact hk h5 F5
    rw [if_neg (by rw [e5]; decide)] at hv
    refine ldL_mk ((c2.fr0 f5).at (j := 2) rfl) (ix (ldI_mk ((cc.fr0 f5).at (j := 1) rfl) (rword_c _ ⟨_, rfl, ifN (fun e6 => ?_) fun e6 => ?_⟩)))
    · rw [if_pos e6] at hv; subst hv; rw [if_pos (by decide)] at hf
      rw [hf, if_pos (by decide)] at hk; exact hk h5 F5
    rw [if_neg (by rw [e6]; decide)] at hv; subst hv; rw [if_neg (by decide)] at hf
    rw [wr (by omega) (by omega)]
    exact hK (u.xs.length - (i + 1)) _ _ (by omega) ⟨i + 1, rfl, hlt, rfl, f2.trans f5, hf⟩
  have hf0 : firstE qE u.xs = 0 := by rw [hf, List.drop_eq_nil_of_le (by omega)]; rfl
  rw [hf0, if_neg (by decide)] at hk
  unfold ref29_check_b2
  clear hf hf0
  refine LoopV.go (fun n st h' => ∃ i : Nat, st = (i : Int) ∧ i ≤ w.xs.length ∧ n = w.xs.length - i ∧ Fr (fun _ => False) h2 h' ∧ firstE rE w.xs = firstE rE (w.xs.drop i)) w.xs.length ⟨0, rfl, by omega, rfl, Fr.refl _ _, rfl⟩ ?_
  rintro n - h3 ⟨i, rfl, hi, rfl, f3, hf⟩ Kn hK
  have F3 := F2.trans f3
  unfold ref29_check_l3
  have c3 := (o1.fr0 (f2.trans f3)).cells
  refine ldL_mk (c3.at (j := 3) rfl) (ifD (fun e4 => ?_) fun e4 => ?_)
  · have hlt : i < w.xs.length := by omega
    rw [firstE_drop hlt] at hf
    refine ldL_mk (c3.at (j := 3) rfl) ?_
    refine idx_sl (SlOk.fr0 S_api_DnsRecord.ok_fr F3 ow) i rfl hlt fun ad cc ok => ?_
    have cc : Cells h3 (ad.add (i * 4)) [.string (bs w.xs[i].Name), .int .i64 w.xs[i].Type_, .int .i64 w.xs[i].Ttl, .string (bs w.xs[i].Data)] := cc
    rw [Int.toNat_natCast]
    obtain ⟨v, hv⟩ : ∃ v, v = rE w.xs[i] := ⟨_, rfl⟩
    rw [← hv] at hf
    unfold rE namedB at hv
    generalize w.xs[i] = x at *
    refine ldS_mk (cc.at0 rfl) (ldI_mk (cc.at (j := 1) rfl) (ldI_mk (cc.at (j := 2) rfl) (ldS_mk (cc.at (j := 3) rfl) ?_)))
    refine al_mk (vs := [.string (bs []), .int .i64 0, .int .i64 0, .string (bs [])]) fun t5 h4 f4 e4' o4 => ?_
    refine stN_own o4 (ws := [.string (bs x.Name), .int .i64 x.Type_, .int .i64 x.Ttl, .string (bs x.Data)]) (by rfl) (by rfl) fun h5 f5 _ o5 => ?_
    have F5 : Fr (fun _ => False) h2 h5 := f3.trans (f4.tr f5 fun b hb hi => by omega)
    refine ldI_mk (o5.cells.at (j := 1) rfl) (named_c x.Type_ ⟨_, rfl, ?_⟩)
    have hsk : skipI x.Type_ = -1 ∨ skipI x.Type_ = 0 ∨ skipI x.Type_ = 2 := by unfold skipI; split <;> (try split) <;> omega
    refine ldS_mk (o5.cells.at0 rfl) (rIsName_c x.Name fun h6 f6 => ⟨_, rfl, ?_⟩)
    have F6 := F2.trans (F5.trans f6)
    have c6 := (o5.fr0 f6).cells
    refine ifN (fun e5 => ?_) fun e5 => ?_
    · rw [if_pos e5] at hv; subst hv; rw [if_pos (by decide)] at hf
      rw [hf] at hk; exact hk h6 F6
    rw [if_neg (by rw [e5]; decide)] at hv
    have four : (wordB x.Type_ = false ∨ x.Ttl < 0 ∨ x.Ttl > 4294967295) → Q (.int .i64 4) h6 := fun hb => by
      rw [if_pos hb] at hv; subst hv; rw [if_pos (by decide)] at hf
      rw [hf] at hk; exact hk h6 F6
    refine ldI_mk (c6.at (j := 1) rfl) (rword_c _ ⟨_, rfl, ifN (fun e6 => four (.inl e6)) fun e6 => ?_⟩)
    refine ldI_mk (c6.at (j := 2) rfl) (ifD (fun e7 => four (.inr (.inl e7))) fun e7 => ?_)
    refine ldI_mk (c6.at (j := 2) rfl) (ifD (fun e8 => four (.inr (.inr e8))) fun e8 => ?_)
    rw [if_neg (by rw [e6]; exact fun h => by rcases h with h | h | h; cases h; exact e7 h; exact e8 h)] at hv
    clear four
    generalize skipI x.Type_ = sk at *
    refine ldS_mk (c6.at (j := 3) rfl) ?_
    rw [bs_size]
    have bad : (if sk < 0 then true else decide (sk.toNat ≤ x.Data.length) && isNameB (x.Data.drop sk.toNat)) = false → ∀ {h7 : Heap}, Fr (fun _ => False) h6 h7 → Q (.int .i64 5) h7 := fun hb {h7} f7 => by
      rw [if_pos hb] at hv; subst hv; rw [if_pos (by decide)] at hf
      rw [hf] at hk; exact hk h7 (F6.trans f7)
    have fin : (if sk < 0 then true else decide (sk.toNat ≤ x.Data.length) && isNameB (x.Data.drop sk.toNat)) = true → ∀ {h7 : Heap}, Fr (fun _ => False) h6 h7 → ldS h7 (Addr.add t5 3) fun t105 => if (decide (((t105.size : Nat) : Int) > 65535)) = true then (Q (.int .i64 3) h7) else (Kn (wrap .i64 ((i : Int) + 1)) h7) := fun hb {h7} f7 => by
      rw [if_neg (by rw [hb]; decide)] at hv
      refine ldS_mk ((c6.fr0 f7).at (j := 3) rfl) ?_
      rw [bs_size]
      refine ifD (fun e8 => ?_) fun e8 => ?_
      · rw [if_pos (by omega)] at hv; subst hv; rw [if_pos (by decide)] at hf
        rw [hf] at hk; exact hk h7 (F6.trans f7)
      rw [if_neg (by omega)] at hv; subst hv; rw [if_neg (by decide)] at hf
      rw [wr (by omega) (by omega)]
      exact hK (w.xs.length - (i + 1)) _ _ (by omega) ⟨i + 1, rfl, hlt, rfl, (F5.trans f6).trans f7, hf⟩
    refine ifD (fun e9 => bad ?_ (Fr.refl _ _)) fun e9 => ?_
    · rw [if_neg (by omega), decide_eq_false (by omega)]; rfl
    refine ifD (fun e10 => ?_) fun e10 => fin (by rw [if_pos (by omega)]) (Fr.refl _ _)
    refine ldS_mk (c6.at (j := 3) rfl) (slF x.Data sk.toNat (by omega) (by omega) ?_)
    refine rIsName_c _ fun h7 f7 => ⟨_, rfl, ifN (fun e11 => bad ?_ f7) fun e11 => fin ?_ f7⟩
    · rw [if_neg (by omega), e11, Bool.and_false]
    · rw [if_neg (by omega), e11, decide_eq_true (by omega)]; rfl
  rw [hf, List.drop_eq_nil_of_le (by omega)] at hk
  exact hk h3 F3
end
end Go.Proofs.YtmjbcnbjedipdaaDoor
