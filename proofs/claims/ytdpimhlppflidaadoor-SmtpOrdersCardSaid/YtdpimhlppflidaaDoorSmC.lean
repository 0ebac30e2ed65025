/-
  The library's functions on strings, as the session calls them.
-/
import Derived.Test.YtdpimhlppflidaaDoorSmB
import Derived.Ground.NamesProg
import Derived.Shelf.Lay
import Derived.Shelf.Strings.OnBuilder
import Derived.Shelf.Strings.Search3
import Derived.Below
namespace Go.Proofs
open Go.Shelf
shelf_lay Lays.n219 Nm 219 at Tryd as Tryd.lays219
shelf_lay Lays.n158 Nm 158 at Tryd as Tryd.lays158
shelf_lay Lays.n156 Nm 156 at Tryd as Tryd.lays156
shelf_lay Lays.n169 Nm 169 at Tryd as Tryd.lays169
theorem Tryd.extra158 : Builder.Extra Tryd.prog Tryd.lays158_ren where
  sizeBuilder := by kernel_rfl
  liesBuilder := by kernel_rfl
  t5 := Tryd.underlying5
  a5 := Tryd.isAgg5
  z5 := Tryd.sizeOf5
  v5 := Tryd.zeroValue5
  infoByte := by kernel_rfl
  cellsByte := by kernel_rfl
  sizeByte := by kernel_rfl
  neB5 := by decide
theorem Tryd.extra156 : Builder.Extra Tryd.prog Tryd.lays156_ren where
  sizeBuilder := by kernel_rfl
  liesBuilder := by kernel_rfl
  t5 := Tryd.underlying5
  a5 := Tryd.isAgg5
  z5 := Tryd.sizeOf5
  v5 := Tryd.zeroValue5
  infoByte := by kernel_rfl
  cellsByte := by kernel_rfl
  sizeByte := by kernel_rfl
  neB5 := by decide
theorem Tryd.extra169 : Builder.Extra Tryd.prog Tryd.lays169_ren where
  sizeBuilder := by kernel_rfl
  liesBuilder := by kernel_rfl
  t5 := Tryd.underlying5
  a5 := Tryd.isAgg5
  z5 := Tryd.sizeOf5
  v5 := Tryd.zeroValue5
  infoByte := by kernel_rfl
  cellsByte := by kernel_rfl
  sizeByte := by kernel_rfl
  neB5 := by decide
end Go.Proofs
namespace Go.Proofs.YtdpimhlppflidaaDoor
set_option linter.unusedSimpArgs false
set_option linter.unusedVariables false
set_option maxRecDepth 20000
open Go Go.RowKit
open Go.IntKind (wrap)
theorem calls_same [Gh] {P : Program} {f : FuncId} {args : Array Value} {h : Heap} {v : Value} (hc : ∀ args w, (callFunc f args).run P w = .ok (.enter f args) w)
    (hs : ∀ w : World, Calls P f args w fun e w' => e = .returned v ∧ w' = w) {K : Value → Heap → Prop} (hk : K v h) : CallT P f args h K := by
  intro w hw hsm
  rw [hc]
  simp only
  refine (hs w).mono ?_
  rintro e w' ⟨rfl, rfl⟩
  exact ⟨_, rfl, by rw [hw]; exact hk, hsm⟩
theorem calls_below [Gh] {P : Program} {f : FuncId} {args : Array Value} {h : Heap} {v : Value} {B : Nat} {R : World → Prop} (hc : ∀ args w, (callFunc f args).run P w = .ok (.enter f args) w)
    (hs : ∀ w : World, w.heap = h → Calls P f args w fun e w' => e = .returned v ∧ Below B w w' ∧ R w') {K : Value → Heap → Prop} (hk : ∀ w', Fr (fun x => B ≤ x) h w'.heap → R w' → K v w'.heap) : CallT P f args h K := by
  intro w hw hsm
  rw [hc]
  simp only
  refine (hs w hw).mono ?_
  rintro e w' ⟨rfl, hb, hr⟩
  subst hw
  exact ⟨_, rfl, hk w' ⟨hb.size, fun b _ hn => hb.block b (Nat.lt_of_not_le hn)⟩ hr, hb.os.trans hsm.1, hb.tape.trans hsm.2.1, hb.output.trans hsm.2.2⟩
/-! ### Prefixes, cuts -/
theorem HasDot_c [Gh] (l : Nm) {h : Heap} {Q : Value → Heap → Prop} (hk : Q (.bool (decide (l.take 1 = [46]))) h) : CallT Tryd.prog fn_internal_stringslite_HasPrefix #[.string (bs l), .string (⟨#[46]⟩ : ByteArray)] h Q := by
  apply internal_stringslite_HasPrefix_s
  unfold internal_stringslite_HasPrefix_v
  have e1 : (((⟨#[46]⟩ : ByteArray).size : Nat) : Int) = ((1 : Nat) : Int) := rfl
  rw [e1, bs_size]
  refine ifD (fun e => ?_) fun e => ?_
  · refine slT l 1 rfl (by omega) ?_
    have e2 : (⟨#[46]⟩ : ByteArray) = bs [46] := rfl
    rw [e2, bs_toList, bs_toList]
    refine Qeq hk ?_
    congr 1
    rw [Bool.eq_iff_iff, decide_eq_true_iff, beq_iff_eq]
  · have : l = [] := List.length_eq_zero_iff.1 (by omega)
    subst this
    exact hk
theorem HasPrefix_c [Gh] (l : Nm) {h : Heap} {Q : Value → Heap → Prop} (hk : Q (.bool (decide (l.take 1 = [46]))) h) : CallT Tryd.prog fn_strings_HasPrefix #[.string (bs l), .string (⟨#[46]⟩ : ByteArray)] h Q := by
  apply strings_HasPrefix_s
  unfold strings_HasPrefix_v
  exact HasDot_c l ⟨_, rfl, hk⟩
def undotL (l : Nm) : Nm := if l.take 1 = [46] then l.drop 1 else l
theorem TrimPrefix_c [Gh] (l : Nm) {h : Heap} {Q : Value → Heap → Prop} (hk : Q (.string (bs (undotL l))) h) : CallT Tryd.prog fn_strings_TrimPrefix #[.string (bs l), .string (⟨#[46]⟩ : ByteArray)] h Q := by
  apply strings_TrimPrefix_s
  unfold strings_TrimPrefix_v
  apply internal_stringslite_TrimPrefix_s
  unfold internal_stringslite_TrimPrefix_v
  unfold undotL at hk
  refine HasDot_c l ⟨_, rfl, ifD (fun e => ?_) fun e => ?_⟩
  · rw [if_pos e] at hk
    have hl : 1 ≤ l.length := by have := congrArg List.length e; rw [List.length_take] at this; simp at this; omega
    exact slF l 1 rfl hl ⟨_, rfl, hk⟩
  · rw [if_neg e] at hk
    exact ⟨_, rfl, hk⟩
def cutSp : Nm → Nm × Nm × Bool
  | [] => ([], [], false)
  | c :: l => if c = 32 then ([], l, true) else (c :: (cutSp l).1, (cutSp l).2.1, (cutSp l).2.2)
theorem index_cons (b c : UInt8) (l : Nm) : Lib.index (b :: l) [c] = if b = c then 0 else if Lib.index l [c] = -1 then -1 else Lib.index l [c] + 1 := by
  rw [Lib.index_one, Lib.index_one]
  show (if _ then _ else _) = _
  unfold Lib.indexByte
  first
    | rfl
    | (by_cases h : b = c <;> simp [h])
theorem cut_index : ∀ l : Nm, Lib.index l [32] = if (cutSp l).2.2 = true then (((cutSp l).1.length : Nat) : Int) else -1
  | [] => rfl
  | c :: l => by
    have ih := cut_index l
    rw [index_cons]
    unfold cutSp
    by_cases h : c = 32
    · rw [if_pos h, if_pos h, if_pos rfl]; rfl
    · rw [if_neg h, if_neg h, ih]
      cases hb : (cutSp l).2.2
      · simp
      · have : ¬ (((cutSp l).1.length : Nat) : Int) = -1 := by omega
        simp [this]
theorem cut_eq : ∀ l : Nm, l = (cutSp l).1 ++ (if (cutSp l).2.2 = true then 32 :: (cutSp l).2.1 else []) ∧ ((cutSp l).2.2 = false → (cutSp l).2.1 = [])
  | [] => ⟨rfl, fun _ => rfl⟩
  | c :: l => by
    obtain ⟨h1, h2⟩ := cut_eq l
    unfold cutSp
    by_cases h : c = 32
    · rw [if_pos h]; exact ⟨by rw [h]; rfl, fun hh => by cases hh⟩
    · rw [if_neg h]
      refine ⟨?_, h2⟩
      dsimp only
      rw [List.cons_append, ← h1]
theorem index_c [Gh] (l : Nm) {h : Heap} {Q : Value → Heap → Prop} (hk : Q (.int .i64 (Lib.index l [32])) h) : CallT Tryd.prog fn_internal_stringslite_Index #[.string (bs l), .string (⟨#[32]⟩ : ByteArray)] h Q :=
  calls_same (fun _ _ => rfl) (fun w => (Any.stringslite_Index_one Tryd.lays219 (bs l) 32 w).mono fun e w' ⟨h1, h2⟩ => ⟨by rw [h1, bs_data], h2⟩) (by rw [Lib.index_one] at hk; exact hk)
theorem cut_c [Gh] (l : Nm) (hl : l.length ≤ 2 ^ 30) {h : Heap} {Q : Value → Heap → Prop} (hk : Q (.tuple #[.string (bs (cutSp l).1), .string (bs (cutSp l).2.1), .bool (cutSp l).2.2]) h) : CallT Tryd.prog fn_strings_Cut #[.string (bs l), .string (⟨#[32]⟩ : ByteArray)] h Q := by
  apply strings_Cut_s
  unfold strings_Cut_v
  apply internal_stringslite_Cut_s
  unfold internal_stringslite_Cut_v
  obtain ⟨h1, h2⟩ := cut_eq l
  refine index_c l ⟨_, rfl, ?_⟩
  rw [cut_index]
  cases hb : (cutSp l).2.2 with
  | false =>
    rw [hb] at hk h1
    have h2 := h2 hb
    rw [h2] at hk
    rw [if_neg Bool.false_ne_true, List.append_nil] at h1
    rw [if_neg Bool.false_ne_true]
    refine ifD (fun e => absurd e (by decide)) fun _ => ?_
    refine ⟨_, _, _, rfl, ?_⟩
    rw [← h1] at hk
    exact hk
  | true =>
    rw [hb] at hk h1
    rw [if_pos rfl] at h1 ⊢
    have hlen := congrArg List.length h1
    rw [List.length_append, List.length_cons] at hlen
    refine ifD (fun _ => ?_) fun e => absurd e (by omega)
    refine slT l (cutSp l).1.length rfl (by omega) ?_
    have e32 : (((⟨#[32]⟩ : ByteArray).size : Nat) : Int) = 1 := rfl
    rw [e32]
    refine slF l ((cutSp l).1.length + 1) (by rw [wr (by omega) (by omega)]; omega) (by omega) ?_
    refine ⟨_, _, _, rfl, ?_⟩
    have t12 : ∀ (l p r : Nm), l = p ++ 32 :: r → l.take p.length = p ∧ l.drop (p.length + 1) = r := fun l p r e => by
      subst e; exact ⟨List.take_left, by rw [List.drop_append]; simp⟩
    obtain ⟨t1, t2⟩ := t12 l _ _ h1
    rw [t1, t2]; exact hk
/-! ### ToUpper, Join, a builder -/
def upL (l : Nm) : Nm := Lib.toUpperA l
theorem ToUpper_c [Gh] (l : Nm) (hl : l.length ≤ 2 ^ 30) (ha : ∀ b ∈ l, b.toNat < 128) {h : Heap} {Q : Value → Heap → Prop} (hk : ∀ h', Fr (fun _ => False) h h' → Q (.string (bs (upL l))) h') : CallT Tryd.prog fn_strings_ToUpper #[.string (bs l)] h Q :=
  calls_below (R := fun _ => True) (B := h.size) (fun _ _ => rfl) (fun w hw => (Any.strings_ToUpper_ascii Tryd.lays158 Tryd.extra158 (bs l) w (by rw [bs_size]; omega) (fun j b hb => by rw [bs_data] at hb; exact ha b (List.mem_of_getElem? hb))).mono fun e w' ⟨h1, h2⟩ => ⟨by rw [h1, bs_data]; rfl, by rw [hw] at h2; exact h2, trivial⟩)
    fun w' f _ => hk _ (f.mono' fun b hb h => by omega)
def joinL (ts : List Nm) : Nm := Lib.join ts [32]
theorem Join_c [Gh] {h : Heap} {p : Option Addr} {c : Nat} {ts : List Nm} (R : Row 1 strV h p c ts) (h0 : ts ≠ []) (hl : ts.length ≤ 2 ^ 30) (hj : (joinL ts).length ≤ 2 ^ 40) {Q : Value → Heap → Prop} (hk : ∀ h', Fr (fun _ => False) h h' → Q (.string (bs (joinL ts))) h') :
    CallT Tryd.prog fn_strings_Join #[.slice p ts.length c, .string (⟨#[32]⟩ : ByteArray)] h Q := by
  obtain ⟨ad, hp, _⟩ := R.cellsAt strV_len (by omega) 0 (List.length_pos_iff.2 h0)
  subst hp
  have o := R.own
  obtain ⟨b, off, sp⟩ := ad
  obtain ⟨h1, h2, _⟩ := o
  simp only at h1 h2
  subst h1 h2
  have hlt : b < h.size := R.lt ⟨_, rfl, rfl⟩
  have hd : (ts.map bs).map (fun x : ByteArray => x.data.toList) = ts := by
    rw [List.map_map]
    conv => rhs; rw [← List.map_id ts]
    exact List.map_congr_left fun x _ => bs_data x
  have e32 : (⟨#[32]⟩ : ByteArray).data.toList = [32] := rfl
  have hlen : (ts.map bs).length = ts.length := List.length_map ..
  refine calls_below (R := fun _ => True) (B := h.size) (v := .string (bs (joinL ts))) (fun _ _ => rfl) (fun w hw => ?_) fun w' f _ => hk _ (f.mono' fun b hb h => by omega)
  have := Any.strings_Join Tryd.lays156 Tryd.extra156 b 0 c (ts.map bs) (⟨#[32]⟩ : ByteArray) w (fun j x hx => by
    rw [List.getElem?_map, Option.map_eq_some_iff] at hx
    obtain ⟨y, hy, rfl⟩ := hx
    obtain ⟨hjl, rfl⟩ := List.getElem?_eq_some_iff.1 hy
    obtain ⟨ad, he, cc⟩ := R.cellsAt strV_len (by omega) j hjl
    cases he
    have c0 : Cells h (Addr.add ⟨b, 0, none⟩ (j * 1)) [.string (bs ts[j])] := cc
    have := c0.at0 rfl
    rw [add_mk, Nat.mul_one] at this
    show hcell w.heap ⟨b, 0 + j, none⟩ = _
    rw [hw]; exact this) (by rw [hw]; exact hlt) (by rw [hlen]; omega) (by rw [hlen]; exact R.le) (by rw [hd, e32]; exact Nat.le_trans hj (by decide))
  rw [hlen, hd, e32] at this
  exact this.mono fun e w' ⟨h1, h2⟩ => ⟨h1, by rw [hw] at h2; exact h2, trivial⟩
def BldH (h : Heap) (b : Nat) (l : Nm) : Prop := ∀ w : World, w.heap = h → Lib.IsBuilder T_strings_Builder T_uint8 b b (Lib.byteCells l) w
theorem bld_heap {T e : TypeId} {B b : Nat} {bs : List Value} {w w2 : World} (hw : w.heap = w2.heap) (h : Lib.IsBuilder T e B b bs w) : Lib.IsBuilder T e B b bs w2 := by
  unfold Lib.IsBuilder Lib.BuilderAt World.ownsRow at *
  rw [← hw]; exact h
theorem bld_new {h : Heap} {a : Addr} (o : Own h a [.pointer none, .slice none 0 0] T_strings_Builder) : BldH h a.block [] := fun w hw =>
  .inl ⟨Nat.le_refl _, .slice none 0 0, by rw [hw]; exact o.blk, ⟨rfl, .inl ⟨rfl, rfl⟩⟩, by simp [Value.ownBlock]⟩
theorem BldH.lt {h : Heap} {b : Nat} {l : Nm} (B : BldH h b l) : b < h.size := by
  have w : World := default
  have := B { (default : World) with heap := h } rfl
  rcases this with h1 | h1
  · exact h1.lt
  · exact h1.lt
theorem bytes_cells (l : Nm) : (Lib.byteCells l).length = l.length := Lib.byteCells_length l
theorem WriteString_c [Gh] {h : Heap} {b : Nat} {l : Nm} (B : BldH h b l) (s : Nm) (hl : l.length + s.length ≤ 2 ^ 40) {Q : Value → Heap → Prop}
    (hk : ∀ h', Fr (fun x => b ≤ x) h h' → BldH h' b (l ++ s) → Q (.tuple #[.int .i64 s.length, .nilIface]) h') : CallT Tryd.prog fn_strings_Builder_WriteString #[.pointer (some ⟨b, 0, none⟩), .string (bs s)] h Q := by
  have lt := B.lt
  refine calls_below (B := b) (R := fun w' => BldH w'.heap b (l ++ s)) (v := .tuple #[.int .i64 s.length, .nilIface]) (fun _ _ => rfl) (fun w hw => ?_) fun w' f hr => hk _ f hr
  refine (Any.Builder_WriteString { Tryd.lays156 with } Tryd.extra156 b b (Lib.byteCells l) (bs s) w (B w hw) (by rw [bytes_cells, bs_size]; exact Nat.le_trans hl (by decide)) (by rw [hw]; omega)).mono fun e w' ⟨h1, h2, h3⟩ => ⟨by rw [h1, bs_size], h3, fun w2 hw2 => bld_heap hw2.symm ?_⟩
  have e : Lib.byteCells l ++ Lib.strCells (bs s) = Lib.byteCells (l ++ s) := by rw [Lib.byteCells_append, Lib.strCells_eq, bs_data]
  rw [e] at h2
  exact .inr h2
theorem BldString_c [Gh] {h : Heap} {b : Nat} {l : Nm} (B : BldH h b l) {Q : Value → Heap → Prop} (hk : ∀ h', Fr (fun x => b ≤ x) h h' → Q (.string (bs l)) h') : CallT Tryd.prog fn_strings_Builder_String #[.pointer (some ⟨b, 0, none⟩)] h Q := by
  have lt := B.lt
  refine calls_below (B := b) (R := fun _ => True) (v := .string (bs l)) (fun _ _ => rfl) (fun w hw => ?_) fun w' f _ => hk _ f
  exact (Any.Builder_String_any Tryd.lays169 Tryd.extra169 b b l w (B w hw) (by rw [hw]; omega)).mono fun e w' ⟨h1, h2⟩ => ⟨h1, h2, trivial⟩
end Go.Proofs.YtdpimhlppflidaaDoor
