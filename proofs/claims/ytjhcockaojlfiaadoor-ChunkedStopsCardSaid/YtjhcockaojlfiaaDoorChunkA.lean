/-
  The decoder as an automaton, and the program's steps on bytes of lines.
-/
import Derived.Test.YtjhcockaojlfiaaDoorArgs
import Derived.Test.YtjhcockaojlfiaaDoorG1
namespace Go.Proofs.YtjhcockaojlfiaaDoor
set_option linter.unusedSimpArgs false
set_option linter.unusedVariables false
set_option maxRecDepth 20000
open Go
open Go.IntKind (wrap)
structure Dec where
  st : Nat
  len : Nat
  sz : Nat
  w : Bool
def Dec.vals (d : Dec) : List Value := [.int .i64 d.st, .int .i64 d.len, .int .i64 d.sz, .bool d.w]
def OwnD (h : Heap) (a : Addr) (d : Dec) : Prop := Own h a d.vals T_chunked_Decoder
def hexN (c : Nat) : Option Nat :=
  if 48 ≤ c ∧ c ≤ 57 then some (c - 48) else if 97 ≤ c ∧ c ≤ 102 then some (c - 87) else if 65 ≤ c ∧ c ≤ 70 then some (c - 55) else none
def hexI (c : Nat) : Int := match hexN c with | some n => n | none => -1
def cnt (d : Dec) : Nat × Dec := (if d.len + 1 > 128 then 3 else 0, { d with len := d.len + 1 })
def lineD (d : Dec) : Nat × Dec :=
  if d.st = 0 ∨ d.st = 1 then
    if d.len = 0 then (2, ⟨d.st, 0, d.sz, false⟩) else (0, ⟨if d.sz = 0 then 4 else 2, 0, d.sz, false⟩)
  else if d.st = 3 then (0, ⟨0, 0, 0, false⟩)
  else if d.st = 4 then (0, ⟨if d.len = 0 then 5 else 4, 0, d.sz, false⟩)
  else (0, ⟨d.st, 0, d.sz, false⟩)
def stepC (d : Dec) (c : Nat) : Nat × Dec :=
  if c = 13 then (if d.st = 0 ∧ d.len = 0 then (2, d) else (0, { d with w := true }))
  else if ¬ (d.st = 0 ∨ d.st = 3) then cnt d
  else match hexN c with
    | some n => if d.st = 0 ∧ d.len < 7 then cnt { d with sz := d.sz * 16 + n } else (2, d)
    | none => if d.st = 3 ∨ c ≠ 59 ∨ d.len = 0 then (2, d) else cnt { d with st := 1 }
def stepD (d : Dec) (c : Nat) : Nat × Dec :=
  if c = 10 then lineD d
  else if d.w = true then
    if d.st = 0 ∨ d.st = 3 then (2, { d with w := false })
    else if (cnt { d with w := false }).1 ≠ 0 then cnt { d with w := false }
    else stepC (cnt { d with w := false }).2 c
  else stepC d c
/-- Sizes that the program's numbers hold. -/
def Dec.ok (d : Dec) : Prop := d.len ≤ 128 ∧ d.sz < 2 ^ 28 ∧ (d.st = 0 → d.len ≤ 7 ∧ d.sz < 16 ^ d.len) ∧ (d.st = 1 → 0 < d.len) ∧ (d.st = 2 → 0 < d.sz ∧ d.len = 0 ∧ d.w = false) ∧ d.st ≤ 5
theorem hexN_lt {c n : Nat} (h : hexN c = some n) : n < 16 := by
  unfold hexN at h
  split at h
  · simp only [Option.some.injEq] at h; omega
  split at h
  · simp only [Option.some.injEq] at h; omega
  split at h
  · simp only [Option.some.injEq] at h; omega
  · simp at h
theorem hexN_59 : hexN 59 = none := by decide
theorem lineD_ok {d : Dec} (ok : d.ok) : (lineD d).1 = 0 → (lineD d).2.ok := by
  obtain ⟨h1, h2, h3, h4, h5, h6⟩ := ok
  unfold lineD Dec.ok
  split
  · split
    · intro h; simp at h
    · rename_i hs _
      intro _
      simp only
      refine ⟨by omega, h2, ?_, ?_, ?_, ?_⟩ <;> split <;> simp <;> omega
  split
  · intro _; simp
  split
  · intro _; simp only
    refine ⟨by omega, h2, ?_, ?_, ?_, ?_⟩ <;> split <;> simp <;> omega
  · intro _; simp only
    exact ⟨by omega, h2, fun e => absurd e (by omega), fun e => absurd e (by omega), fun e => by simp [(h5 e).1], h6⟩
theorem stepC_ok {d : Dec} (ok : d.ok) (h2' : d.st ≠ 2) {c : Nat} : (stepC d c).1 = 0 → (stepC d c).2.ok := by
  obtain ⟨h1, h2, h3, h4, h5, h6⟩ := ok
  unfold stepC
  split
  · split
    · intro h; simp at h
    · intro _; exact ⟨h1, h2, h3, h4, fun e => absurd e h2', h6⟩
  split
  · unfold cnt
    intro h
    simp only at h
    refine ⟨by simp only; split at h <;> omega, h2, ?_, ?_, fun e => absurd e h2', h6⟩
    · simp only; intro e; omega
    · simp
  cases hx : hexN c with
  | some n =>
    have := hexN_lt hx
    simp only
    split
    · rename_i hl
      intro _
      unfold cnt
      obtain ⟨hl1, hl2⟩ := hl
      obtain ⟨_, h3⟩ := h3 hl1
      have hp : (16 : Nat) ^ (d.len + 1) = 16 ^ d.len * 16 := Nat.pow_succ ..
      have hp7 : (16 : Nat) ^ (d.len + 1) ≤ 16 ^ 7 := Nat.pow_le_pow_right (by omega) (by omega)
      refine ⟨by simp only; omega, by simp only; omega, fun _ => ⟨by simp only; omega, by simp only; omega⟩, fun e => ?_, fun e => absurd e h2', h6⟩
      simp
    · intro h; simp at h
  | none =>
    simp only
    split
    · intro h; simp at h
    · intro h
      unfold cnt at h ⊢
      simp only at h
      refine ⟨by simp only; split at h <;> omega, h2, ?_, ?_, ?_, ?_⟩ <;> simp
theorem stepD_ok {d : Dec} (ok : d.ok) (h2' : d.st ≠ 2) {c : Nat} : (stepD d c).1 = 0 → (stepD d c).2.ok := by
  unfold stepD
  split
  · exact lineD_ok ok
  split
  · split
    · intro h; simp at h
    split
    · rename_i h; intro h'; exact absurd h' h
    · rename_i hs h
      refine stepC_ok (d := (cnt { d with w := false }).2) ?_ h2'
      obtain ⟨h1, h2, h3, h4, h5, h6⟩ := ok
      unfold cnt at h ⊢
      simp only at h
      refine ⟨by simp only; split at h <;> omega, h2, ?_, ?_, fun e => absurd e h2', h6⟩
      · simp only; intro e; omega
      · simp
  · exact stepC_ok ok h2'
theorem OwnD.fr {S : Nat → Prop} {h h' : Heap} {a : Addr} {d : Dec} (o : OwnD h a d) (f : Fr S h h') (hn : ¬ S a.block) : OwnD h' a d := Own.fr o f hn
theorem hex_c [Gh] (x : UInt8) {h : Heap} {Q : Value → Heap → Prop} (hk : Q (.int .i64 (hexI x.toNat)) h) : CallT Tryd.prog fn_chunked_hex #[.int .u8 x.toNat] h Q := by
  have hx := UInt8.toNat_lt x
  generalize x.toNat = c at *
  apply chunked_hex_s
  unfold chunked_hex_v
  unfold hexI hexN at hk
  have w1 : 48 ≤ c → c ≤ 57 → wrap .i64 (wrap .u8 ((c : Int) - 48)) = ((c - 48 : Nat) : Int) := fun h1 h2 => by rw [wr8 (by omega) (by omega), wr (by omega) (by omega)]; omega
  have w2 : 97 ≤ c → c ≤ 102 → wrap .i64 (wrap .i64 (wrap .u8 ((c : Int) - 97)) + 10) = ((c - 87 : Nat) : Int) := fun h1 h2 => by rw [wr8 (by omega) (by omega), wr (x := (c : Int) - 97) (by omega) (by omega), wr (by omega) (by omega)]; omega
  have w3 : 65 ≤ c → c ≤ 70 → wrap .i64 (wrap .i64 (wrap .u8 ((c : Int) - 65)) + 10) = ((c - 55 : Nat) : Int) := fun h1 h2 => by rw [wr8 (by omega) (by omega), wr (x := (c : Int) - 65) (by omega) (by omega), wr (by omega) (by omega)]; omega
  have b1 : ¬ (48 ≤ c ∧ c ≤ 57) → chunked_hex_b1 c Q h := fun hn => by
    rw [if_neg hn] at hk
    unfold chunked_hex_b1
    have up : ¬ (97 ≤ c ∧ c ≤ 102) → (if decide ((c : Int) ≥ 65) = true then (if decide ((c : Int) ≤ 70) = true then Q (.int .i64 (wrap .i64 (wrap .i64 (wrap .u8 ((c : Int) - 65)) + 10))) h else Q (.int .i64 (-1)) h) else Q (.int .i64 (-1)) h) := fun hn2 => by
      rw [if_neg hn2] at hk
      refine ifD (fun a => ifD (fun b => ?_) fun b => ?_) fun a => ?_
      · rw [if_pos (by omega)] at hk; rw [w3 (by omega) (by omega)]; exact hk
      · rw [if_neg (by omega)] at hk; exact hk
      · rw [if_neg (by omega)] at hk; exact hk
    refine ifD (fun a => ifD (fun b => ?_) fun b => up (by omega)) fun a => up (by omega)
    rw [if_pos (by omega)] at hk; rw [w2 (by omega) (by omega)]; exact hk
  refine ifD (fun a => ifD (fun b => ?_) fun b => b1 (by omega)) fun a => b1 (by omega)
  rw [if_pos (by omega)] at hk; rw [w1 (by omega) (by omega)]; exact hk
theorem count_c [Gh] {h : Heap} {a : Addr} {d : Dec} (o : OwnD h a d) (ok : d.len ≤ 128) {Q : Value → Heap → Prop}
    (hk : ∀ h', Fr (fun b => b = a.block) h h' → h'.size = h.size → OwnD h' a (cnt d).2 → Q (.int .i64 (cnt d).1) h') : CallT Tryd.prog fn_chunked_Decoder_count #[.pointer (some a), .int .i64 1] h Q := by
  apply chunked_Decoder_count_s
  unfold chunked_Decoder_count_v
  refine nn_mk (ldI_mk (o.cells.at rfl) (nn_mk ?_))
  rw [wr (by omega) (by omega)]
  refine st1_own o 1 (by simp [Dec.vals]) rfl fun h1 f1 s1 o1 => ?_
  refine nn_mk (ldI_mk (o1.cells.at rfl) ?_)
  have hk := hk h1 f1 s1 o1
  unfold cnt at hk
  refine ifD (fun hb => ?_) fun hb => ?_
  · rw [if_pos (by omega)] at hk; exact hk
  · rw [if_neg (by omega)] at hk; exact hk
theorem line_c [Gh] {h : Heap} {a : Addr} {d : Dec} (o : OwnD h a d) {Q : Value → Heap → Prop}
    (hk : ∀ h', Fr (fun b => b = a.block) h h' → h'.size = h.size → OwnD h' a (lineD d).2 → Q (.int .i64 (lineD d).1) h') : CallT Tryd.prog fn_chunked_Decoder_line #[.pointer (some a)] h Q := by
  apply chunked_Decoder_line_s
  unfold chunked_Decoder_line_v
  refine nn_mk (ldI_mk (o.cells.at rfl) (nn_mk ?_))
  refine st1_own o 1 (by simp [Dec.vals]) rfl fun h1 f1 s1 o1 => ?_
  refine nn_mk ?_
  refine st1_own o1 3 (by simp [Dec.vals]) rfl fun h2 f2 s2 o2 => ?_
  refine nn_mk (ldI_mk (o2.cells.at0 rfl) ?_)
  have f12 := f1.trans f2
  have hk : ∀ h', Fr (fun b => b = a.block) h2 h' → h'.size = h2.size → OwnD h' a (lineD d).2 → Q (.int .i64 (lineD d).1) h' := fun h' f s => hk h' (f12.trans f) (by omega)
  obtain ⟨st, len, sz, w⟩ := d
  have o2 : OwnD h2 a ⟨st, 0, sz, false⟩ := o2
  unfold lineD at hk
  simp only at hk
  have b1 : ∀ b : Bool, (b = true ↔ st = 0 ∨ st = 1) → chunked_Decoder_line_b1 (some a) len st b Q h2 := fun b hb => by
    unfold chunked_Decoder_line_b1
    refine ifB (fun e => ?_) fun e => ?_
    · have e := hb.1 e
      rw [if_pos e] at hk
      refine ifE (fun e2 => ?_) fun e2 => ?_
      · rw [if_pos (by omega)] at hk; exact hk _ (Fr.refl _ _) rfl o2
      · rw [if_neg (by omega)] at hk
        refine nn_mk (st1_own0 o2 (by simp [Dec.vals]) rfl fun h3 f3 s3 o3 => nn_mk (ldI_mk (o3.cells.at rfl) ?_))
        refine ifE (fun (e3 : (sz : Int) = 0) => ?_) fun (e3 : (sz : Int) ≠ 0) => ?_
        · rw [if_pos (by omega)] at hk
          exact nn_mk (st1_own0 o3 (by simp [Dec.vals]) rfl fun h4 f4 s4 o4 => hk _ (f3.trans f4) (by omega) o4)
        · rw [if_neg (by omega)] at hk
          exact hk _ f3 s3 o3
    · have e : ¬ (st = 0 ∨ st = 1) := fun h => by rw [hb.2 h] at e; cases e
      rw [if_neg e] at hk
      refine ifE (fun e2 => ?_) fun e2 => ?_
      · rw [if_pos (by omega)] at hk
        exact nn_mk (st1_own0 o2 (by simp [Dec.vals]) rfl fun h3 f3 s3 o3 => nn_mk (st1_own o3 2 (by simp [Dec.vals]) rfl fun h4 f4 s4 o4 => hk _ (f3.trans f4) (by omega) o4))
      · rw [if_neg (by omega)] at hk
        refine ifE (fun e3 => ?_) fun e3 => ?_
        · rw [if_pos (by omega)] at hk
          refine ifE (fun e4 => ?_) fun e4 => ?_
          · rw [if_pos (by omega)] at hk
            exact nn_mk (st1_own0 o2 (by simp [Dec.vals]) rfl fun h3 f3 s3 o3 => hk _ f3 s3 o3)
          · rw [if_neg (by omega)] at hk
            have o2 : OwnD h2 a ⟨4, 0, sz, false⟩ := by rw [show st = 4 by omega] at o2; exact o2
            exact hk _ (Fr.refl _ _) rfl o2
        · rw [if_neg (by omega)] at hk
          exact hk _ (Fr.refl _ _) rfl o2
  refine ifE (fun (e : (st : Int) = 0) => b1 _ ?_) fun (e : (st : Int) ≠ 0) => b1 _ ?_
  · simp only [beq_iff_eq]; omega
  · simp only [beq_iff_eq]; omega
end Go.Proofs.YtjhcockaojlfiaaDoor
