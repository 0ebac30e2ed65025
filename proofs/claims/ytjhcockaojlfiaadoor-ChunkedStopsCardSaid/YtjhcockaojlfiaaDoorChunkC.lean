/-
  What Feed says of a piece, and that the program's Feed says it.
-/
import Derived.Test.YtjhcockaojlfiaaDoorChunkB
namespace Go.Proofs.YtjhcockaojlfiaaDoor
set_option linter.unusedSimpArgs false
set_option linter.unusedVariables false
set_option maxRecDepth 20000
open Go
open Go.IntKind (wrap)
theorem slTo {s : List UInt8} (n : Nat) {m : Int} (hm : m = n) (hn : n ≤ s.length) {K : ByteArray → Prop} (hk : K (bs (s.take n))) : sliceStr (bs s) none (some m) K := by
  subst hm
  refine ⟨by omega, by rw [bs_size]; omega, ?_⟩
  rw [Int.toNat_natCast, bs_take]; exact hk
theorem slFrom {s : List UInt8} (n : Nat) {m : Int} (hm : m = n) (hn : n ≤ s.length) {K : ByteArray → Prop} (hk : K (bs (s.drop n))) : sliceStr (bs s) (some m) none K := by
  subst hm
  refine ⟨by omega, by rw [bs_size]; omega, ?_⟩
  rw [Int.toNat_natCast, bs_size, bs_drop]; exact hk
structure FeedR where
  data : List UInt8
  left : List UInt8
  over : Bool
  err : Nat
  d : Dec
def feedB : List UInt8 → Dec → List UInt8 → FeedR
  | [], d, acc => ⟨acc, [], false, 0, d⟩
  | x :: s, d, acc =>
    if d.st = 2 then feedB s { d with sz := d.sz - 1, st := if d.sz = 1 then 3 else 2 } (acc ++ [x])
    else if (stepD d x.toNat).1 ≠ 0 then ⟨acc, [], false, (stepD d x.toNat).1, { (stepD d x.toNat).2 with st := 6 }⟩
    else if (stepD d x.toNat).2.st = 5 then ⟨acc, s, true, 0, (stepD d x.toNat).2⟩
    else feedB s (stepD d x.toNat).2 acc
def feed (d : Dec) (s : List UInt8) : FeedR := if d.st = 5 ∨ d.st = 6 then ⟨[], [], false, 10, d⟩ else feedB s d []
/-- A decoder that the program may hold. -/
def Dec.fine (d : Dec) : Prop := d.st = 6 ∨ d.ok
theorem eat_ok {d : Dec} (ok : d.ok) (h2 : d.st = 2) (n : Nat) (hn : n ≤ d.sz) : Dec.ok { d with sz := d.sz - n, st := if d.sz = n then 3 else 2 } := by
  obtain ⟨h1, h2', h3, h4, h5, h6⟩ := ok
  have h5 := h5 h2
  refine ⟨h1, by simp only; omega, ?_, ?_, ?_, ?_⟩ <;> simp only <;> split <;> simp <;> first | omega | (refine ⟨by omega, h5.2.1, h5.2.2⟩)
theorem feedB_take : ∀ (n : Nat) (s : List UInt8) (d : Dec) (acc : List UInt8), d.st = 2 → 0 < n → n ≤ d.sz → n ≤ s.length →
    feedB s d acc = feedB (s.drop n) { d with sz := d.sz - n, st := if d.sz = n then 3 else 2 } (acc ++ s.take n)
  | 0, _, _, _, _, h, _, _ => absurd h (by omega)
  | n + 1, [], _, _, _, _, _, h => absurd h (by simp)
  | n + 1, x :: s, d, acc, h2, _, hs, hl => by
    rw [feedB, if_pos h2, List.drop_succ_cons, List.take_succ_cons]
    by_cases hn : n = 0
    · subst hn; simp
    · have h1 : d.sz ≠ 1 := by omega
      rw [if_neg h1, feedB_take n s _ _ rfl (by omega) (by simp only; omega) (by simpa using hl)]
      have e : (d.sz - 1 = n) ↔ (d.sz = n + 1) := by omega
      have e2 : d.sz - 1 - n = d.sz - (n + 1) := by omega
      simp only [List.append_assoc, List.singleton_append, e, e2]
/-- What a call of Feed holds while it runs. -/
structure FI (h0 : Heap) (a bo bS bd : Addr) (h : Heap) (d : Dec) (s out : List UInt8) : Prop where
  fr : Fr (fun b => b = a.block) h0 h
  la : a.block < h0.size
  ld : h0.size ≤ bd.block
  ls : bd.block < bS.block
  lo : bS.block < bo.block
  od : OwnD h a d
  oo : ∃ p c, out.length ≤ c ∧ Own h bo [.slice p out.length c] T_sl_uint8 ∧ OwnC h p c 1 (bytesV out) ∧ ∀ b, InA p b → bo.block < b
  os : Own h bS [.string (bs s)] T_string
  opd : Own h bd [.pointer (some a)] T_p_chunked_Decoder
  lim : out.length + s.length ≤ 2 ^ 40
theorem el_u8 : ElemT Tryd.prog T_sl_uint8 T_uint8 Tryd.t5 (.int .u8 0) := ⟨Tryd.underlying35, by kernel_rfl, by kernel_rfl, by kernel_rfl, by decide⟩
theorem conv8 [Gh] {h : Heap} {p : Option Addr} {c : Nat} {out : List UInt8} (o : OwnC h p c 1 (bytesV out)) {K : Value → Heap → Prop} (hk : K (.string (bs out)) h) : convV Tryd.prog T_sl_uint8 T_string (.slice p out.length c) h K :=
  conv_bytes Tryd.underlying35 Tryd.underlying9 Tryd.underlying5 (l := out) rfl (fun ad hd => by subst hd; exact o.cells) (fun hd => by subst hd; have := o.1; simpa [bytesV] using this) hk
theorem app8 [Gh] {h : Heap} {p : Option Addr} {c : Nat} {out t : List UInt8} (o : OwnC h p c 1 (bytesV out)) (hc : out.length ≤ c) (lim : out.length + t.length ≤ 2 ^ 40) {K : Value → Heap → Prop}
    (hk : ∀ (p' : Option Addr) (c' : Nat) (h' : Heap), OwnC h' p' c' 1 (bytesV (out ++ t)) → (out ++ t).length ≤ c' → Fr (InA p) h h' → (∀ b, InA p' b → InA p b ∨ h.size ≤ b) → K (.slice p' (out ++ t).length c') h') :
    bltV Tryd.prog .append #[T_sl_uint8, T_string] T_sl_uint8 #[false, false] #[.slice p out.length c, .string (bs t)] h K := by
  have es : (Tryd.t5).size = 1 := by kernel_rfl
  have eb : (Tryd.t5).bytes = 1 := by kernel_rfl
  refine append_own el_u8 Tryd.underlying9 (by intro k e; cases e) (m := t.length) (xs := bytesV t) (by rw [es]; exact o) (by rw [bytesV_len, es]; omega) hc ?_ (bytesV_cellV _) (by rw [eb]; omega) ?_
  · have := Src.str (h := h) (sz := 1) (bs t) rfl
    rw [bs_data, bs_size] at this
    rw [es]; exact this
  · intro p' c' h' o' hc' f hn
    have e : out.length + t.length = (out ++ t).length := by simp
    rw [e] at hc' ⊢
    rw [es] at o'
    refine hk p' c' h' ?_ hc' f hn
    have e : bytesV (out ++ t) = bytesV out ++ bytesV t := by simp [bytesV]
    rw [e]; exact o'
theorem take_c [Gh] {h0 h : Heap} {a bo bS bd : Addr} {d : Dec} {s out : List UInt8} (I : FI h0 a bo bS bd h d s out) (ok : d.ok) (n : Nat) {m : Int} (hm : m = n) (hn : n ≤ s.length) (hn2 : n ≤ d.sz) {Q : Value → Heap → Prop}
    (hk : ∀ h', FI h0 a bo bS bd h' { d with sz := d.sz - n } (s.drop n) (out ++ s.take n) → Q (.tuple #[]) h') :
    CallT Tryd.prog fn_chunked_Decoder_Feed_1 #[.int .i64 m, .pointer (some bo), .pointer (some bS), .pointer (some bd)] h Q := by
  apply chunked_Decoder_Feed_1_s
  unfold chunked_Decoder_Feed_1_v
  obtain ⟨p, c, hc, o1, oc, hp⟩ := I.oo
  obtain ⟨fr, la, ld, ls, lo, od, _, os, opd, lim⟩ := I

  have s0 := fr.size
  refine ldL_mk (o1.cells.at0 rfl) (ldS_mk (os.cells.at0 rfl) (slTo n hm hn ?_))
  have lt : (s.take n).length = n := by rw [List.length_take]; omega
  refine app8 oc hc (by omega) fun p' c' h1 oc1 hc1 f1 hn1 => ⟨_, _, _, rfl, ?_⟩
  have hp' : ∀ b, InA p' b → bo.block < b := fun b hb => by
    rcases hn1 b hb with h | h
    · exact hp b h
    · have := o1.lt; omega
  have z1 : ∀ b, b ≤ bo.block → ¬ InA p b := fun b hb hi => by have := hp b hi; omega
  have o1' := o1.fr f1 (z1 _ (Nat.le_refl _))
  have os1 := os.fr f1 (z1 _ (by omega))
  have opd1 := opd.fr f1 (z1 _ (by omega))
  have od1 := od.fr f1 (z1 _ (by omega))
  refine st1_own0 o1' (by simp) rfl fun h2 f2 s2 o2 => ?_
  have os2 := os1.fr f2 (by omega)
  have opd2 := opd1.fr f2 (by omega)
  have od2 := od1.fr f2 (by omega)
  have oc2 := oc1.fr f2 (fun b hb => by have := hp' b hb; omega)
  refine ldS_mk (os2.cells.at0 rfl) (slFrom n hm hn ?_)
  refine st1_own0 os2 (by simp) rfl fun h3 f3 s3 os3 => ?_
  have opd3 := opd2.fr f3 (by omega)
  have od3 := od2.fr f3 (by omega)
  have o3 := o2.fr f3 (by omega)
  have oc3 := oc2.fr f3 (fun b hb => by have := hp' b hb; omega)
  refine ldP_mk (opd3.cells.at0 rfl) (nn_mk (ldI_mk (od3.cells.at rfl) (nn_mk ?_)))
  obtain ⟨_, ok2, _⟩ := ok
  have e : wrap .i64 ((d.sz : Int) - m) = ((d.sz - n : Nat) : Int) := by rw [wr (by omega) (by omega)]; omega
  rw [e]
  refine st1_own od3 2 (by simp [Dec.vals]) rfl fun h4 f4 s4 od4 => ?_
  have f14 : Fr (fun b => b = a.block) h0 h4 := ((((fr.tr f1 fun x hx hi => by have := hp x hi; omega).tr f2 fun x hx hi => by omega).tr f3 fun x hx hi => by omega).trans f4)
  refine hk h4 ⟨f14, la, ld, ls, lo, od4, ⟨p', c', hc1, o3.fr f4 (by omega), oc3.fr f4 (fun b hb => by have := hp' b hb; omega), hp'⟩, os3.fr f4 (by omega), opd3.fr f4 (by omega), ?_⟩
  simp only [List.length_append, List.length_drop, lt]; omega
end Go.Proofs.YtjhcockaojlfiaaDoor
