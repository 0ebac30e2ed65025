/-
  Strings, rows of bytes, small letters.
-/
import Derived.Test.YtjelnknmjhceiaaHs
import Derived.Test.YtjelnknmjhceiaaLoop
import Derived.Test.YtjelnknmjhceiaaArgs
import Derived.Test.YtjelnknmjhceiaaAutA
namespace Go.Proofs.Ytjelnknmjhceiaa.Au
set_option linter.unusedSimpArgs false
set_option linter.unusedVariables false
set_option maxRecDepth 20000
open Go
open Go.IntKind (wrap)
theorem slS (l : Nm) {a b : Int} (i j : Nat) (ha : a = i) (hb : b = j) (h1 : i ≤ j) (h2 : j ≤ l.length) {K : ByteArray → Prop} (hk : K (bs ((l.drop i).take (j - i)))) : sliceStr (bs l) (some a) (some b) K := by
  subst ha hb
  refine ⟨by omega, by omega, by rw [bs_size]; omega, ?_⟩
  rw [Int.toNat_natCast, Int.toNat_natCast, bs_extract]; exact hk
theorem slF (l : Nm) {a : Int} (i : Nat) (ha : a = i) (h2 : i ≤ l.length) {K : ByteArray → Prop} (hk : K (bs (l.drop i))) : sliceStr (bs l) (some a) none K := by
  subst ha
  refine ⟨by omega, by rw [bs_size]; omega, ?_⟩
  rw [Int.toNat_natCast, bs_size, bs_drop]; exact hk
theorem slT (l : Nm) {b : Int} (j : Nat) (hb : b = j) (h2 : j ≤ l.length) {K : ByteArray → Prop} (hk : K (bs (l.take j))) : sliceStr (bs l) none (some b) K := by
  subst hb
  refine ⟨by omega, by rw [bs_size]; omega, ?_⟩
  rw [Int.toNat_natCast, bs_take]; exact hk
def byteI (b : UInt8) : Int := b.toNat
theorem byteI_le (b : UInt8) : 0 ≤ byteI b ∧ byteI b ≤ 255 := by unfold byteI; have := b.toNat_lt; omega
theorem byteI_inj {u v : UInt8} (h : byteI u = byteI v) : u = v := by apply UInt8.toNat_inj.1; unfold byteI at h; omega
theorem ixS (l : Nm) {n : Int} (i : Nat) (hn : n = i) (hi : i < l.length) {K : Int → Prop} (hk : K (byteI l[i])) : idxS (bs l) n K := by
  subst hn
  refine ⟨by omega, by rw [bs_size]; omega, ?_⟩
  have : bAt (bs l) (i : Int) = byteI l[i] := by
    unfold bAt byteI bs
    simp [hi]
  rw [this]; exact hk
def bV (b : UInt8) : List Value := [.int .u8 b.toNat]
theorem bV_len (b : UInt8) : (bV b).length = 1 := rfl
theorem bV_flat (l : Nm) : l.flatMap bV = bytesV l := by
  induction l with
  | nil => rfl
  | cons a l ih => rw [List.flatMap_cons, ih]; rfl
theorem el_u8 : ElemT Try.prog T_sl_uint8 T_uint8 Try.t5 (.int .u8 0) := ⟨Try.underlying87, by kernel_rfl, by kernel_rfl, by kernel_rfl, by decide⟩
theorem conv8 [Gh] {h : Heap} {p : Option Addr} {c : Nat} {l : Nm} (R : Row 1 bV h p c l) {K : Value → Heap → Prop} (hk : K (.string (bs l)) h) : convV Try.prog T_sl_uint8 T_string (.slice p l.length c) h K := by
  have o := R.own
  rw [bV_flat] at o
  exact conv_bytes Try.underlying87 Try.underlying9 Try.underlying5 (l := l) rfl (fun ad hd => by subst hd; exact o.cells) (fun hd => by subst hd; have := o.1; simpa [bytesV] using this) hk
theorem convS [Gh] (l : Nm) {h : Heap} {K : Value → Heap → Prop} (hk : ∀ p c h', Fr (fun _ => False) h h' → (∀ b, InA p b → h.size ≤ b) → Row 1 bV h' p c l → K (.slice p l.length c) h') : convV Try.prog T_string T_sl_uint8 (.string (bs l)) h K :=
  convSB_mk Try.underlying9 Try.underlying87 Try.underlying5 l fun a c h' f hn o hl => hk a c h' f hn ⟨by rw [bV_flat]; exact o, hl⟩
theorem app1 [Gh] {h : Heap} {p : Option Addr} {cap : Nat} {L : Nm} (R : Row 1 bV h p cap L) {e : UInt8} {b : Addr} (ob : Own h b (bV e) T_uint8) (hl : L.length ≤ 2 ^ 29) {K : Value → Heap → Prop}
    (hk : ∀ p' cap' h', Row 1 bV h' p' cap' (L ++ [e]) → Fr (InA p) h h' → (∀ b, InA p' b → InA p b ∨ h.size ≤ b) → K (.slice p' (L ++ [e]).length cap') h') :
    bltV Try.prog .append #[T_sl_uint8, T_sl_uint8] T_sl_uint8 #[false, false] #[.slice p L.length cap, .slice (some b) 1 1] h K :=
  R.app el_u8 Try.underlying87 (by intro k e; cases e) (by kernel_rfl) (by decide +kernel) bV_len (fun _ => rfl) ob 1 hl hk
def smallI (c : Int) : Int := if 65 ≤ c ∧ c ≤ 90 then c + 32 else c
def lowB (b : UInt8) : UInt8 := if 65 ≤ b ∧ b ≤ 90 then b + 32 else b
def lowL (l : Nm) : Nm := l.map lowB
theorem wrb {x : Int} (h1 : 0 ≤ x) (h2 : x ≤ 255) : wrap .u8 x = x := wr8 h1 h2
theorem byteI_low (b : UInt8) : byteI (lowB b) = smallI (byteI b) := by
  have hb := byteI_le b
  unfold lowB smallI byteI at *
  have e : (65 ≤ b ∧ b ≤ 90) ↔ (65 ≤ (b.toNat : Int) ∧ (b.toNat : Int) ≤ 90) := by
    rw [UInt8.le_iff_toNat_le, UInt8.le_iff_toNat_le]
    show (65 ≤ b.toNat ∧ b.toNat ≤ 90) ↔ _
    omega
  by_cases h : 65 ≤ b ∧ b ≤ 90
  · rw [if_pos h, if_pos (e.1 h)]
    have h2 := (e.1 h).2
    rw [UInt8.toNat_add]
    show (((b.toNat + 32) % 256 : Nat) : Int) = _
    omega
  · rw [if_neg h, if_neg fun h' => h (e.2 h')]
theorem small_c [Gh] (c : Int) (h0 : 0 ≤ c) (h1 : c ≤ 255) {h : Heap} {Q : Value → Heap → Prop} (hk : Q (.int .u8 (smallI c)) h) : CallT Try.prog fn_automaton_small #[.int .u8 c] h Q := by
  apply automaton_small_s
  unfold automaton_small_v
  unfold smallI at hk
  refine ifD (fun e => ifD (fun e2 => ?_) fun e2 => ?_) fun e => ?_
  · rw [if_pos ⟨e, e2⟩] at hk
    rw [wrb (x := c + 97) (by omega) (by omega), wrb (by omega) (by omega)]
    have : c + 97 - 65 = c + 32 := by omega
    rw [this]; exact hk
  · rw [if_neg (by omega)] at hk; exact hk
  · rw [if_neg (by omega)] at hk; exact hk
theorem lowB_if {b : UInt8} : byteI (lowB b) = if 65 ≤ byteI b ∧ byteI b ≤ 90 then byteI b + 32 else byteI b := byteI_low b
theorem lowL_len (l : Nm) : (lowL l).length = l.length := by unfold lowL; simp
theorem lowSet (l : Nm) (i : Nat) (hi : i < l.length) : (lowL (l.take i) ++ l.drop i).set i (lowB l[i]) = lowL (l.take (i + 1)) ++ l.drop (i + 1) := by
  have hlow : lowL (l.take (i + 1)) = lowL (l.take i) ++ [lowB l[i]] := by
    rw [show l.take (i + 1) = l.take i ++ [l[i]] by rw [List.take_append_getElem]]; unfold lowL; rw [List.map_append]; rfl
  have hlen : (lowL (l.take i)).length = i := by rw [lowL_len, List.length_take]; omega
  rw [List.set_append_right _ _ (by omega), hlen, Nat.sub_self, List.drop_eq_getElem_cons hi, List.set_cons_zero, hlow]
  simp
theorem lowAt (l : Nm) (i : Nat) (hi : i < l.length) (h : i < (lowL (l.take i) ++ l.drop i).length) : (lowL (l.take i) ++ l.drop i)[i] = l[i] := by
  have hlen : (lowL (l.take i)).length = i := by rw [lowL_len, List.length_take]; omega
  rw [List.getElem_append_right (by omega), List.getElem_drop]
  congr 1; omega
theorem lowTot (l : Nm) (i : Nat) (hi : i ≤ l.length) : (lowL (l.take i) ++ l.drop i).length = l.length := by rw [List.length_append, lowL_len, List.length_take, List.length_drop]; omega
theorem _root_.Go.Proofs.Ytjelnknmjhceiaa.Row.setB [Gh] {h : Heap} {p : Option Addr} {cap : Nat} {L : Nm} (R : Row 1 bV h p cap L) {n : Int} {len : Nat} (i : Nat) (hn : n = i) (hl : len = L.length) (hi : i < L.length) (x : UInt8) {c : Int} (hc : c = byteI x) {K : Heap → Prop} (hk : ∀ h', Fr (InA p) h h' → Row 1 bV h' p cap (L.set i x) → K h') :
    idxA n len (nn p fun a => st1 h (a.add (n.toNat * 1)) (.int .u8 c) K) := by
  subst hc hl
  refine idxA_mk i hn hi ?_
  obtain ⟨ad, hp, _⟩ := R.cellsAt bV_len (by omega) i hi
  subst hp
  refine nn_mk ?_
  rw [hn, Int.toNat_natCast]
  have := R.set1 bV_len i hi rfl (j := 0) (by omega) (v := .int .u8 (byteI x)) rfl (e' := x) rfl hk
  rw [add_add, Nat.add_zero] at this
  exact this
theorem lower_c [Gh] (l : Nm) (hl : l.length ≤ 2 ^ 28) {h : Heap} {Q : Value → Heap → Prop} (hk : ∀ h', Fr (fun _ => False) h h' → Q (.string (bs (lowL l))) h') : CallT Try.prog fn_automaton_lower #[.string (bs l)] h Q := by
  apply automaton_lower_s
  unfold automaton_lower_v
  refine convS l fun p c h1 f1 hp R => ⟨_, _, _, rfl, ?_⟩
  have z1 := f1.size
  refine LoopV.mk (fun st h' => ∃ (i : Nat), st = (i : Int) ∧ i ≤ l.length ∧ Fr (fun _ => False) h h' ∧ Row 1 bV h' p c (lowL (l.take i) ++ l.drop i)) (fun st _ => l.length - st.toNat) ⟨0, rfl, by omega, f1, by simpa [lowL] using R⟩ ?_
  rintro - h2 ⟨i, rfl, hi, f2, R2⟩
  unfold automaton_lower_l1
  refine ifD (fun e => ?_) fun e => ?_
  · have hlt : i < l.length := by omega
    have ht := lowTot l i hi
    have hx := byteI_le l[i]
    have := R2.idx (n := (i : Int)) bV_len (by omega) i rfl (by omega) (K := fun a => ldI h2 (a.add ((i : Int).toNat * 1)) .u8 fun t14 => CallT Try.prog fn_automaton_small #[.int .u8 t14] h2 fun v h2 => ∃ t18 : Int, v = .int .u8 t18 ∧ idxA (i : Int) l.length (nn p fun t19 => st1 h2 (Addr.add t19 (((i : Int)).toNat * 1)) (.int .u8 t18) fun h3 => (∃ (k : Nat), wrap .i64 ((i : Int) + 1) = (k : Int) ∧ k ≤ l.length ∧ Fr (fun _ => False) h h3 ∧ Row 1 bV h3 p c (lowL (l.take k) ++ l.drop k)) ∧ l.length - (wrap .i64 ((i : Int) + 1)).toNat < l.length - (i : Int).toNat)) fun ad ce => by
      rw [Int.toNat_natCast]
      rw [lowAt l i hlt] at ce
      refine ldI_mk (ce.at0 rfl) (small_c _ hx.1 hx.2 ⟨_, rfl, ?_⟩)
      refine R2.setB i rfl ht.symm (by omega) (lowB l[i]) (byteI_low _).symm fun h3 f3 R3 => ?_
      rw [lowSet l i hlt] at R3
      rw [wr (by omega) (by omega)]
      exact ⟨⟨i + 1, rfl, hlt, f2.tr f3 fun b hb hi => by have := hp b hi; omega, R3⟩, by omega⟩
    rw [ht] at this
    exact this
  · have hil : i = l.length := by omega
    subst hil
    rw [List.take_length, List.drop_length, List.append_nil] at R2
    have := conv8 R2 (K := fun v h4 => ∃ t22 : ByteArray, v = .string t22 ∧ Q (.string t22) h4) ⟨_, rfl, hk h2 f2⟩
    rw [lowL_len] at this; exact this
end Go.Proofs.Ytjelnknmjhceiaa.Au
