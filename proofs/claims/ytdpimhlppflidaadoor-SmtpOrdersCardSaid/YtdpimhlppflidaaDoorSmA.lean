/-
  Lines: what a splitter gives; the program's splitter.
-/
import Derived.Test.YtdpimhlppflidaaDoorHs
import Derived.Test.YtdpimhlppflidaaDoorQue
import Derived.Test.YtdpimhlppflidaaDoorSubSl
import Derived.Test.YtdpimhlppflidaaDoorLoop
import Derived.Test.YtdpimhlppflidaaDoorTy
import Derived.Test.YtdpimhlppflidaaDoorG1
import Derived.Test.YtdpimhlppflidaaDoorG2
import Derived.Laws.Externs
namespace Go.Proofs.YtdpimhlppflidaaDoor
set_option linter.unusedSimpArgs false
set_option linter.unusedVariables false
set_option maxRecDepth 20000
open Go
open Go.IntKind (wrap)
abbrev Nm := List UInt8
abbrev Ln := Nm × Bool
theorem slS (l : Nm) {a b : Int} (i j : Nat) (ha : a = i) (hb : b = j) (h1 : i ≤ j) (h2 : j ≤ l.length) {K : ByteArray → Prop} (hk : K (bs ((l.drop i).take (j - i)))) : sliceStr (bs l) (some a) (some b) K := by
  subst ha hb
  refine ⟨by omega, by omega, by rw [bs_size]; omega, ?_⟩
  rw [Int.toNat_natCast, Int.toNat_natCast, bs_extract]; exact hk
theorem slF (l : Nm) {a : Int} (i : Nat) (ha : a = i) (h2 : i ≤ l.length) {K : ByteArray → Prop} (hk : K (bs (l.drop i))) : sliceStr (bs l) (some a) none K := by
  subst ha
  refine ⟨by omega, by rw [bs_size]; omega, ?_⟩
  rw [Int.toNat_natCast, bs_size, bs_drop]; exact hk
theorem slT (l : Nm) {b : Int} (j : Nat) (hb : b = j) (h2 : j ≤ l.length) {K : ByteArray → Prop} (hk : K (bs (l.take j))) : sliceStr (bs l) none (some b) K := by
  subst hb
  refine ⟨by omega, by rw [bs_size]; omega, ?_⟩
  rw [Int.toNat_natCast, bs_take]; exact hk
def byteI (b : UInt8) : Int := b.toNat
theorem byteI_le (b : UInt8) : 0 ≤ byteI b ∧ byteI b ≤ 255 := by unfold byteI; have := b.toNat_lt; omega
theorem byteI_inj {u v : UInt8} (h : byteI u = byteI v) : u = v := by apply UInt8.toNat_inj.1; unfold byteI at h; omega
theorem ixS (l : Nm) {n : Int} (i : Nat) (hn : n = i) (hi : i < l.length) {K : Int → Prop} (hk : K (byteI l[i])) : idxS (bs l) n K := by
  subst hn
  refine ⟨by omega, by rw [bs_size]; omega, ?_⟩
  have : bAt (bs l) (i : Int) = byteI l[i] := by
    unfold bAt byteI bs
    simp [hi]
  rw [this]; exact hk
theorem ldS_ {h : Heap} {a : Addr} {s : ByteArray} (hc : hcell h a = some (.string s)) : ldS h a fun t => (.string t : Value) = .string s := ⟨s, hc, rfl⟩
theorem ldI_ {h : Heap} {a : Addr} {k : IntKind} {n : Int} (hc : hcell h a = some (.int k n)) : ldI h a k fun t => (.int k t : Value) = .int k n := ⟨n, hc, rfl⟩
theorem ldP_ {h : Heap} {a : Addr} {p : Option Addr} (hc : hcell h a = some (.pointer p)) : ldP h a fun t => (.pointer t : Value) = .pointer p := ⟨p, hc, rfl⟩
theorem ldL_ {h : Heap} {a : Addr} {p : Option Addr} {n c : Nat} (hc : hcell h a = some (.slice p n c)) : ldL h a fun q m d => (.slice q m d : Value) = .slice p n c := ⟨p, n, c, hc, rfl⟩
def bV (b : UInt8) : List Value := [.int .u8 b.toNat]
theorem bV_len (b : UInt8) : (bV b).length = 1 := rfl
theorem bV_flat (l : Nm) : l.flatMap bV = bytesV l := by
  induction l with
  | nil => rfl
  | cons c l ih => rw [List.flatMap_cons, ih]; rfl
def strV (s : Nm) : List Value := [.string (bs s)]
theorem strV_len (s : Nm) : (strV s).length = 1 := rfl
def lnV (x : Ln) : List Value := [.string (bs x.1), .bool x.2]
theorem lnV_len (x : Ln) : (lnV x).length = 2 := rfl
theorem el_u8 : ElemT Tryd.prog T_sl_uint8 T_uint8 Tryd.t5 (.int .u8 0) := ⟨Tryd.underlying39, by kernel_rfl, by kernel_rfl, by kernel_rfl, by decide⟩
theorem el_str : ElemT Tryd.prog T_sl_string T_string Tryd.t9 (.string (⟨#[]⟩ : ByteArray)) := ⟨Tryd.underlying35, by kernel_rfl, by kernel_rfl, by kernel_rfl, by decide +kernel⟩
theorem el_ln : ElemT Tryd.prog T_sl_api_Line T_api_Line Tryd.t67 (.agg #[.string ⟨#[]⟩, .bool false]) := ⟨Tryd.underlying53, by kernel_rfl, by kernel_rfl, by kernel_rfl, by decide +kernel⟩
theorem conv8 [Gh] {h : Heap} {p : Option Addr} {c : Nat} {l : Nm} (R : Row 1 bV h p c l) {K : Value → Heap → Prop} (hk : K (.string (bs l)) h) : convV Tryd.prog T_sl_uint8 T_string (.slice p l.length c) h K := by
  have o := R.own
  rw [bV_flat] at o
  exact conv_bytes Tryd.underlying39 Tryd.underlying9 Tryd.underlying5 (l := l) rfl (fun ad hd => by subst hd; exact o.cells) (fun hd => by subst hd; have := o.1; simpa [bytesV] using this) hk
theorem appB [Gh] {h : Heap} {p : Option Addr} {cap : Nat} {L : Nm} (R : Row 1 bV h p cap L) (t : Nm) (hl : L.length + t.length ≤ 2 ^ 30) {K : Value → Heap → Prop}
    (hk : ∀ p' cap' h', Row 1 bV h' p' cap' (L ++ t) → Fr (InA p) h h' → (∀ b, InA p' b → InA p b ∨ h.size ≤ b) → K (.slice p' (L ++ t).length cap') h') :
    bltV Tryd.prog .append #[T_sl_uint8, T_string] T_sl_uint8 #[false, false] #[.slice p L.length cap, .string (bs t)] h K := by
  have s : Src h 1 (.string (bs t)) t.length (t.flatMap bV) := by
    have := Src.str (h := h) (sz := 1) (bs t) rfl
    rw [bs_data, bs_size] at this
    rw [bV_flat]; exact this
  exact R.appL el_u8 Tryd.underlying9 (by intro k e; cases e) (by kernel_rfl) (by decide +kernel) bV_len (fun _ => rfl) s hl hk
theorem appLn [Gh] {h : Heap} {p : Option Addr} {cap : Nat} {L : List Ln} (R : Row 2 lnV h p cap L) {e : Ln} {b : Addr} {T : TypeId} (ob : Own h b (lnV e) T) (hl : L.length ≤ 2 ^ 29) {K : Value → Heap → Prop}
    (hk : ∀ p' cap' h', Row 2 lnV h' p' cap' (L ++ [e]) → Fr (InA p) h h' → (∀ b, InA p' b → InA p b ∨ h.size ≤ b) → K (.slice p' (L ++ [e]).length cap') h') :
    bltV Tryd.prog .append #[T_sl_api_Line, T_sl_api_Line] T_sl_api_Line #[false, false] #[.slice p L.length cap, .slice (some b) 1 1] h K :=
  R.app el_ln Tryd.underlying53 (by intro k e; cases e) (by kernel_rfl) (by decide +kernel) lnV_len (fun _ => rfl) ob 1 hl hk
/-! ### What a splitter gives -/
def bareL (l : Nm) : Nm := if l.getLast? = some 13 then l.dropLast else l
theorem bareL_le (l : Nm) : (bareL l).length ≤ l.length := by unfold bareL; split <;> simp
theorem bareL_take (l : Nm) : l.take (bareL l).length = bareL l := by
  unfold bareL; split
  · rw [List.length_dropLast, List.dropLast_eq_take]
  · simp
def lineL (mx : Nat) (l : Nm) : Ln := (l.take mx, decide (mx < l.length))
def feedL (mx : Nat) : Nm → Nm → List Ln × Nm
  | B, [] => ([], B)
  | B, c :: s => if c = 10 then (lineL mx (bareL B) :: (feedL mx [] s).1, (feedL mx [] s).2) else feedL mx (B ++ [c]) s
theorem feedL_none (mx : Nat) : ∀ (l B : Nm), (∀ x ∈ l, x ≠ 10) → feedL mx B l = ([], B ++ l)
  | [], B, _ => by simp [feedL]
  | c :: l, B, h => by
    rw [feedL, if_neg (h c (by simp)), feedL_none mx l _ (fun x hx => h x (by simp [hx]))]; simp
theorem feedL_some (mx : Nat) (r : Nm) : ∀ (l B : Nm), (∀ x ∈ l, x ≠ 10) → feedL mx B (l ++ 10 :: r) = (lineL mx (bareL (B ++ l)) :: (feedL mx [] r).1, (feedL mx [] r).2)
  | [], B, _ => by simp [feedL]
  | c :: l, B, h => by
    rw [List.cons_append, feedL, if_neg (h c (by simp)), feedL_some mx r l _ (fun x hx => h x (by simp [hx]))]; simp
theorem feedL_append (mx : Nat) : ∀ (x y B : Nm), feedL mx B (x ++ y) = ((feedL mx B x).1 ++ (feedL mx (feedL mx B x).2 y).1, (feedL mx (feedL mx B x).2 y).2)
  | [], y, B => by simp [feedL]
  | c :: x, y, B => by
    by_cases hc : c = 10
    · simp only [List.cons_append, feedL, if_pos hc, feedL_append mx x y []]
    · simp only [List.cons_append, feedL, if_neg hc, feedL_append mx x y (B ++ [c])]
theorem feedL_len (mx : Nat) : ∀ (l B : Nm), (feedL mx B l).1.length + (feedL mx B l).2.length ≤ B.length + l.length
  | [], B => by simp [feedL]
  | c :: l, B => by
    unfold feedL
    split
    · have := feedL_len mx l []
      simp only [List.length_cons, List.length_nil] at this ⊢; omega
    · have := feedL_len mx l (B ++ [c])
      simp only [List.length_append, List.length_cons, List.length_nil] at this ⊢; omega
def idx10 (l : Nm) : Option Nat := l.findIdx? (· == 10)
theorem find_range (l : Nm) : (List.range l.length).find? (fun i => l.getD i 0 == 10) = idx10 l := by
  unfold idx10
  induction l with
  | nil => rfl
  | cons x l ih =>
    rw [List.length_cons, List.range_succ_eq_map, List.find?_cons, List.findIdx?_cons]
    by_cases hx : (x == 10) = true
    · simp [hx]
    · have hx' : (x == 10) = false := by simpa using hx
      simp only [List.getD_cons_zero, hx', List.find?_map, Bool.false_eq_true, if_false]
      rw [← ih]
      congr 1
theorem firstIdx_bs (l : Nm) : firstIdx (bs l) 10 = match idx10 l with | some i => (i : Int) | none => -1 := by
  unfold firstIdx
  have : (fun i => (bs l)[i]! == 10) = (fun i => l.getD i 0 == 10) := by
    funext i
    congr 1
    have e : (bs l)[i]! = l.toArray[i]! := by
      by_cases h : i < l.length
      · have h1 : i < (bs l).size := by rw [bs_size]; exact h
        rw [getElem!_pos (bs l) i h1, getElem!_pos l.toArray i (by simpa using h)]; rfl
      · have h1 : ¬ i < (bs l).size := by rw [bs_size]; exact h
        rw [getElem!_neg (bs l) i h1, getElem!_neg l.toArray i (by simpa using h)]
    rw [e]; simp [List.getD_eq_getElem?_getD]; rfl
  rw [this, bs_size, find_range]
  cases idx10 l <;> rfl
theorem extIndex_c [Gh] (l : Nm) {h : Heap} {Q : Value → Heap → Prop} (hk : Q (.int .i64 (match idx10 l with | some i => (i : Int) | none => -1)) h) :
    CallT Tryd.prog fn_internal_bytealg_IndexByteString #[.string (bs l), .int .u8 10] h Q := by
  rintro w rfl hs
  rw [run_callFunc_extern (fn := Tryd.f67) (e := Extern.BytealgIndexByte.indexByte) rfl (by kernel_rfl) (by kernel_rfl) (by kernel_rfl) (by kernel_rfl), run_indexByte_string]
  simp only [Result.andThen]
  have : (10 : Int).toNat.toUInt8 = 10 := rfl
  rw [this, firstIdx_bs]; exact ⟨hk, hs⟩
theorem IndexByte_c [Gh] (l : Nm) {h : Heap} {Q : Value → Heap → Prop} (hk : Q (.int .i64 (match idx10 l with | some i => (i : Int) | none => -1)) h) :
    CallT Tryd.prog fn_strings_IndexByte #[.string (bs l), .int .u8 10] h Q := by
  apply strings_IndexByte_s
  unfold strings_IndexByte_v
  apply internal_stringslite_IndexByte_s
  unfold internal_stringslite_IndexByte_v
  exact extIndex_c l ⟨_, rfl, _, rfl, hk⟩
theorem idx10_none {l : Nm} (h : idx10 l = none) : ∀ x ∈ l, x ≠ 10 := by
  unfold idx10 at h
  rw [List.findIdx?_eq_none_iff] at h
  intro x hx hx10; have := h x hx; simp [hx10] at this
theorem idx10_some {l : Nm} {i : Nat} (h : idx10 l = some i) : ∃ r, l = l.take i ++ 10 :: r ∧ (∀ x ∈ l.take i, x ≠ 10) ∧ l.drop (i + 1) = r ∧ i < l.length := by
  unfold idx10 at h
  rw [List.findIdx?_eq_some_iff_getElem] at h
  obtain ⟨hi, h1, h2⟩ := h
  refine ⟨l.drop (i + 1), ?_, ?_, rfl, hi⟩
  · have e : l[i] = 10 := by simpa using h1
    conv => lhs; rw [← List.take_append_drop i l, List.drop_eq_getElem_cons hi, e]
  · intro x hx
    obtain ⟨j, hj, rfl⟩ := List.mem_iff_getElem.1 hx
    rw [List.length_take] at hj
    rw [List.getElem_take]
    have := h2 j (by omega)
    simpa using this
/-! ### The program's splitter -/
def clampI (m : Int) : Int := if m < 1 then 1 else if m > 512 then 512 else m
structure SplF (ok : Nat → Prop) (h : Heap) (b : Addr) (mx : Nat) (B : Nm) : Prop where
  ex : ∃ a c, Own h b [.int .i64 mx, .slice a (B.take (mx + 1)).length c, .int .i64 B.length, .bool (decide (B.getLast? = some 13))] T_lines_Splitter ∧ Row 1 bV h a c (B.take (mx + 1)) ∧ ∀ x, InA a x → ok x ∧ x ≠ b.block
  okb : ok b.block
  bd : 1 ≤ mx ∧ mx ≤ 512
  small : B.length < 2 ^ 40
section
variable {ok : Nat → Prop} {h : Heap} {b : Addr} {mx : Nat} {B : Nm}
theorem SplF.to {ok' : Nat → Prop} (S : SplF ok h b mx B) (h1 : ∀ x, x < h.size → ok x → ok' x) : SplF ok' h b mx B := by
  obtain ⟨a, c, o, R, hp⟩ := S.ex
  exact ⟨⟨a, c, o, R, fun x hx => ⟨h1 x (R.lt hx) (hp x hx).1, (hp x hx).2⟩⟩, h1 _ o.lt S.okb, S.bd, S.small⟩
theorem SplF.fr {P : Nat → Prop} {h' : Heap} (S : SplF ok h b mx B) (f : Fr P h h') (hP : ∀ x, x < h.size → P x → ¬ ok x) : SplF ok h' b mx B := by
  obtain ⟨a, c, o, R, hp⟩ := S.ex
  exact ⟨⟨a, c, o.fr f fun h => hP _ o.lt h S.okb, R.fr f fun x hx h => hP x (R.lt hx) h (hp x hx).1, hp⟩, S.okb, S.bd, S.small⟩
theorem SplF.fr0 {h' : Heap} (S : SplF ok h b mx B) (f : Fr (fun _ => False) h h') : SplF ok h' b mx B := S.fr f fun _ _ h => h.elim
theorem SplF.lt (S : SplF ok h b mx B) : b.block < h.size := by obtain ⟨a, c, o, _⟩ := S.ex; exact o.lt
end
theorem bound_c [Gh] (m : Int) {h : Heap} {Q : Value → Heap → Prop} (hk : Q (.int .i64 (clampI m)) h) : CallT Tryd.prog fn_lines_bound #[.int .i64 m] h Q := by
  apply lines_bound_s
  unfold lines_bound_v
  have e : (if (512 : Int) < (if (1 : Int) > m then (1 : Int) else m) then (512 : Int) else (if (1 : Int) > m then (1 : Int) else m)) = clampI m := by
    unfold clampI; repeat' split
    all_goals omega
  rw [e]; exact hk
theorem lnNew_c [Gh] {h : Heap} {Q : Value → Heap → Prop} (hk : ∀ b h', Fr (fun _ => False) h h' → b.block = h.size → SplF (fun x => x = h.size) h' b 512 [] → Q (.pointer (some b)) h') : CallT Tryd.prog fn_lines_New #[.int .i64 512] h Q := by
  apply lines_New_s
  unfold lines_New_v
  refine bound_c 512 ⟨_, rfl, ?_⟩
  have e : clampI 512 = ((512 : Nat) : Int) := rfl
  rw [e]
  refine al_mk (vs := [.int .i64 (512 : Nat), .slice none 0 0, .int .i64 0, .bool false]) fun b h1 f1 e1 o1 => ?_
  exact hk b h1 f1 e1 ⟨⟨none, 0, o1, Row.nil, fun x hx => (notInA hx).elim⟩, e1, by omega, by simp⟩
section
variable {ok : Nat → Prop} {h : Heap} {b : Addr} {mx : Nat} {B : Nm}
theorem last_append (B l : Nm) (hl : l ≠ []) : (B ++ l).getLast? = l.getLast? := by
  rw [List.getLast?_append]; cases h : l.getLast? with
  | none => rw [List.getLast?_eq_none_iff] at h; exact absurd h hl
  | some x => rfl
theorem append_c [Gh] (S : SplF ok h b mx B) (l : Nm) (hsm : B.length + l.length < 2 ^ 39) {Q : Value → Heap → Prop}
    (hk : ∀ h', Fr ok h h' → SplF (fun x => ok x ∨ h.size ≤ x) h' b mx (B ++ l) → Q (.tuple #[]) h') : CallT Tryd.prog fn_lines_Splitter_append #[.pointer (some b), .string (bs l)] h Q := by
  apply lines_Splitter_append_s
  unfold lines_Splitter_append_v
  refine ifS (m := []) (fun hl => ?_) fun hl => ?_
  · subst hl
    exact hk h (Fr.refl _ _) (by rw [List.append_nil]; exact S.to fun x _ h => .inl h)
  obtain ⟨a, c, o, R, hp⟩ := S.ex
  have bd := S.bd
  have lt := o.lt
  have hpos : 0 < l.length := List.length_pos_iff.2 hl
  refine nn_mk (ldI_mk (o.cells.at (j := 2) rfl) (nn_mk ?_))
  rw [bs_size, wr (x := (B.length : Int) + (l.length : Int)) (by omega) (by omega), wr (x := (l.length : Int) - 1) (by omega) (by omega)]
  refine st1_own o 2 (by simp) rfl fun h1 f1 s1 o1 => ?_
  refine ixS l (l.length - 1) (by omega) (by omega) (nn_mk ?_)
  refine st1_own o1 3 (by simp) rfl fun h2 f2 s2 o2 => ?_
  have hlast : (byteI (l[l.length - 1]'(by omega)) == 13) = decide ((B ++ l).getLast? = some 13) := by
    rw [last_append B l hl, List.getLast?_eq_getElem?, List.getElem?_eq_getElem (by omega)]
    rw [Bool.eq_iff_iff]
    simp only [beq_iff_eq, decide_eq_true_eq, Option.some.injEq]
    exact ⟨fun h => byteI_inj (by rw [h]; rfl), fun h => by rw [h]; rfl⟩
  have o2 : Own h2 b [.int .i64 mx, .slice a (B.take (mx + 1)).length c, .int .i64 ((B.length : Int) + (l.length : Int)), .bool (byteI (l[l.length - 1]'(by omega)) == 13)] T_lines_Splitter := o2
  rw [hlast] at o2
  have hcast : (B.length : Int) + (l.length : Int) = (((B ++ l).length : Nat) : Int) := by rw [List.length_append]; omega
  rw [hcast] at o2
  have f12 : Fr (fun x => x = b.block) h h2 := f1.trans f2
  have R2 := R.fr f12 fun x hx h => (hp x hx).2 h
  have hlen : (B.take (mx + 1)).length = min (mx + 1) B.length := List.length_take
  have z2 : h2.size = h.size := by omega
  refine nn_mk (ldI_mk (o2.cells.at0 rfl) (nn_mk (ldL_mk (o2.cells.at (j := 1) rfl) ?_)))
  rw [wr (x := (mx : Int) + 1) (by omega) (by omega), wr (x := (mx : Int) + 1 - ((B.take (mx + 1)).length : Nat)) (by omega) (by omega)]
  refine ifD (fun e => ?_) fun e => ?_
  · refine nn_mk (ldL_mk (o2.cells.at (j := 1) rfl) ?_)
    have hk2 : (if (l.length : Int) < (mx : Int) + 1 - ((B.take (mx + 1)).length : Nat) then (l.length : Int) else (mx : Int) + 1 - ((B.take (mx + 1)).length : Nat)) = ((min l.length (mx + 1 - B.length) : Nat) : Int) := by
      split <;> omega
    rw [hk2]
    refine slT l (min l.length (mx + 1 - B.length)) rfl (by omega) ?_
    refine appB R2 (l.take (min l.length (mx + 1 - B.length))) (by simp only [List.length_take]; omega) fun p' c' h3 R3 f3 hn3 => ⟨_, _, _, rfl, ?_⟩
    have hbb : B.take (mx + 1) ++ l.take (min l.length (mx + 1 - B.length)) = (B ++ l).take (mx + 1) := by
      rw [List.take_append]
      congr 1
      rw [Nat.min_comm, ← List.take_take, List.take_length]
    rw [hbb] at R3 ⊢
    have o3 := o2.fr f3 fun h => (hp _ h).2 rfl
    refine nn_mk (st1_own o3 1 (by simp) rfl fun h4 f4 s4 o4 => ?_)
    have new : ∀ x, InA p' x → (ok x ∨ h.size ≤ x) ∧ x ≠ b.block := fun x hx => by
      rcases hn3 x hx with h | h
      · exact ⟨.inl (hp x h).1, (hp x h).2⟩
      · exact ⟨.inr (by omega), by omega⟩
    refine hk h4 (((f12.mono fun x hx => hx ▸ S.okb).trans (f3.mono fun x hx => (hp x hx).1)).trans (f4.mono fun x hx => hx ▸ S.okb)) ⟨⟨p', c', o4, R3.fr f4 fun x hx h => (new x hx).2 h, new⟩, .inl S.okb, S.bd, by rw [List.length_append]; omega⟩
  · have hbb : (B ++ l).take (mx + 1) = B.take (mx + 1) := by rw [List.take_append_of_le_length (by omega)]
    exact hk h2 (f12.mono fun x hx => hx ▸ S.okb) ⟨⟨a, c, by rw [hbb]; exact o2, by rw [hbb]; exact R2, fun x hx => ⟨.inl (hp x hx).1, (hp x hx).2⟩⟩, .inl S.okb, S.bd, by rw [List.length_append]; omega⟩
theorem length_c [Gh] (S : SplF ok h b mx B) {Q : Value → Heap → Prop} (hk : Q (.int .i64 ((bareL B).length : Int)) h) : CallT Tryd.prog fn_lines_Splitter_length #[.pointer (some b)] h Q := by
  obtain ⟨a, c, o, R, hp⟩ := S.ex
  have sm := S.small
  apply lines_Splitter_length_s
  unfold lines_Splitter_length_v
  refine nn_mk (ldB_mk (o.cells.at (j := 3) rfl) ?_)
  unfold bareL at hk
  refine ifD (fun e => ?_) fun e => ?_
  · rw [if_pos e, List.length_dropLast] at hk
    have : B ≠ [] := by rintro rfl; simp at e
    have := List.length_pos_iff.2 this
    refine nn_mk (ldI_mk (o.cells.at (j := 2) rfl) ?_)
    rw [wr (by omega) (by omega)]
    have e2 : (B.length : Int) - 1 = ((B.length - 1 : Nat) : Int) := by omega
    rw [e2]; exact hk
  · rw [if_neg e] at hk
    exact nn_mk (ldI_mk (o.cells.at (j := 2) rfl) hk)
theorem forget_c [Gh] (S : SplF ok h b mx B) {K : Heap → Prop} (hk : ∀ h', Fr ok h h' → SplF ok h' b mx [] → K h') : CallDT Tryd.prog fn_lines_Splitter_forget #[.pointer (some b)] h K := by
  obtain ⟨a, c, o, R, hp⟩ := S.ex
  refine lines_Splitter_forgetD_d _ ?_
  unfold lines_Splitter_forgetD_v lines_Splitter_forgetD_b1
  refine nn_mk (ldL_mk (o.cells.at (j := 1) rfl) ⟨by omega, by omega, nn_mk ?_⟩)
  refine st1_own o 1 (by simp) rfl fun h1 f1 s1 o1 => nn_mk ?_
  refine st1_own o1 2 (by simp) rfl fun h2 f2 s2 o2 => nn_mk ?_
  refine st1_own o2 3 (by simp) rfl fun h3 f3 s3 o3 => ?_
  have f : Fr (fun x => x = b.block) h h3 := (f1.trans f2).trans f3
  have R3 := R.fr f fun x hx h => (hp x hx).2 h
  refine hk h3 (f.mono fun x hx => hx ▸ S.okb) ⟨⟨a, c, o3, ⟨?_, by simp⟩, hp⟩, S.okb, S.bd, by simp⟩
  have o4 := R3.own
  cases a with
  | none => exact ⟨rfl, o4.2⟩
  | some ad =>
    obtain ⟨e1, e2, ds, t, fr, g0, g1, g2, g3, g4⟩ := o4
    exact ⟨e1, e2, ds, t, fr, g0, g1, g2, by simp, fun i hi => absurd hi (by simp)⟩
theorem first_c [Gh] (S : SplF ok h b mx B) (n most : Nat) {Q : Value → Heap → Prop} (hk : Q (.string (bs (B.take (min (min n most) (mx + 1))))) h) : CallT Tryd.prog fn_lines_Splitter_first #[.pointer (some b), .int .i64 n, .int .i64 most] h Q := by
  obtain ⟨a, c, o, R, hp⟩ := S.ex
  apply lines_Splitter_first_s
  unfold lines_Splitter_first_v
  refine nn_mk (ldL_mk (o.cells.at (j := 1) rfl) (nn_mk (ldL_mk (o.cells.at (j := 1) rfl) ?_)))
  have hlen : (B.take (mx + 1)).length = min (mx + 1) B.length := List.length_take
  have hle := R.le
  have e : (if (((B.take (mx + 1)).length : Nat) : Int) < (if (most : Int) < (n : Int) then (most : Int) else (n : Int)) then (((B.take (mx + 1)).length : Nat) : Int) else (if (most : Int) < (n : Int) then (most : Int) else (n : Int))) = ((min (min n most) (B.take (mx + 1)).length : Nat) : Int) := by
    split <;> split <;> omega
  rw [e]
  refine ⟨by omega, by omega, by omega, ?_⟩
  rw [Int.toNat_natCast]
  have hl2 : ((B.take (mx + 1)).take (min n most)).length = min (min n most) (B.take (mx + 1)).length := List.length_take
  have htt : (B.take (mx + 1)).take (min n most) = B.take (min (min n most) (mx + 1)) := List.take_take
  have own2 : Row 1 bV h a (min (min n most) (B.take (mx + 1)).length) ((B.take (mx + 1)).take (min n most)) := by
    refine ⟨?_, by omega⟩
    have o4 := R.own
    rw [bV_flat] at o4 ⊢
    cases a with
    | none =>
      obtain ⟨h1, h2⟩ := o4
      have h3 : B.take (mx + 1) = [] := by simpa [bytesV] using h1
      rw [h3]; exact ⟨by simp [bytesV], by simp⟩
    | some ad =>
      obtain ⟨e1, e2, ds, t, fr, g0, g1, g2, g3, g4⟩ := o4
      rw [bytesV_len] at g3
      refine ⟨e1, e2, ds, t, fr, g0, g1, by omega, by rw [bytesV_len]; omega, fun i hi => ?_⟩
      rw [bytesV_len] at hi
      rw [g4 i (by rw [bytesV_len]; omega)]
      simp [bytesV]
  rw [← hl2] at own2 ⊢
  refine conv8 own2 ⟨_, rfl, ?_⟩
  rw [htt]; exact hk
theorem line_c [Gh] (S : SplF ok h b mx B) (n : Nat) {Q : Value → Heap → Prop}
    (hk : ∀ h', Fr ok h h' → SplF ok h' b mx [] → Q (.agg #[.string (bs (B.take (min n mx))), .bool (decide (mx < n))]) h') : CallT Tryd.prog fn_lines_Splitter_line #[.pointer (some b), .int .i64 n] h Q := by
  refine lines_Splitter_line_s _ _ ?_
  unfold lines_Splitter_line_v lines_Splitter_line_b1
  refine al_mk (vs := [.string (bs []), .bool false]) fun t4 h1 f1 e1 o1 => ?_
  unfold lines_Splitter_line_b2 lines_Splitter_line_b3
  have S1 := S.fr0 f1
  obtain ⟨a, c, o, R, hp⟩ := S1.ex
  have lt := S.lt
  refine nn_mk (ldI_mk (o.cells.at0 rfl) (nn_mk (ldI_mk (o.cells.at0 rfl) ?_)))
  refine first_c S1 n mx ⟨_, rfl, ldI_ (o.cells.at0 rfl), ?_⟩
  have nb : b.block ≠ t4.block := by omega
  refine stN_own o1 (ws := [.string (bs []), .bool false]) (by rfl) (by rfl) fun h2 f2 s2 o2 => ⟨ldI_ ((o.fr f2 nb).cells.at0 rfl), ?_⟩
  refine st1_own0 o2 (by simp) rfl fun h3 f3 s3 o3 => ⟨ldI_ (((o.fr f2 nb).fr f3 nb).cells.at0 rfl), ?_⟩
  refine st1_own o3 1 (by simp) rfl fun h4 f4 s4 o4 => ?_
  have f14 : Fr (fun x => x = t4.block) h1 h4 := (f2.trans f3).trans f4
  have z1 := f1.size
  have S1' : SplF (fun x => ok x ∧ x < h.size) h1 b mx B := (S.to (ok' := fun x => ok x ∧ x < h.size) fun x hx h => ⟨h, hx⟩).fr0 f1
  have S4 := S1'.fr f14 fun x hx h hok => by omega
  refine forget_c S4 fun h5 f5 S5 => ?_
  have c5 := (o4.fr f5 fun h => by omega).cells
  have emin : min (min n mx) (mx + 1) = min n mx := by omega
  rw [emin] at c5
  have c5 : Cells h5 t4 [.string (bs (B.take (min n mx))), .bool (decide ((n : Int) > (mx : Int)))] := c5
  refine ldS_mk (c5.at0 rfl) (ldB_mk (c5.at (j := 1) rfl) ?_)
  have ed : decide ((n : Int) > (mx : Int)) = decide (mx < n) := by rw [decide_eq_decide]; omega
  rw [ed]
  exact hk h5 ((f1.tr f14 fun x hx h => by omega).mono (S' := ok) (fun _ h => h.elim) |>.trans (f5.mono fun x h => h.1)) (S5.to fun x _ h => h.1)
end
end Go.Proofs.YtdpimhlppflidaaDoor
