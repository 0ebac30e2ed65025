/-
  Plain laws of the automaton: cuts, inversion, lines.
-/
import Derived.Test.YtjhcockaojlfiaaDoorChunkI
namespace Go.Proofs.YtjhcockaojlfiaaDoor
set_option linter.unusedSimpArgs false
set_option linter.unusedVariables false
set_option maxRecDepth 20000
open Go
theorem feedB_acc : ∀ (s : List UInt8) (d : Dec) (acc : List UInt8), feedB s d acc = { feedB s d [] with data := acc ++ (feedB s d []).data }
  | [], d, acc => by simp [feedB]
  | x :: s, d, acc => by
    rw [feedB, feedB]
    split
    · rw [feedB_acc s _ (acc ++ [x]), feedB_acc s _ ([] ++ [x])]; simp
    split
    · simp
    split
    · simp
    · exact feedB_acc s _ acc
theorem feedB_app : ∀ (s t : List UInt8) (d : Dec) (acc : List UInt8), feedB (s ++ t) d acc =
    if (feedB s d acc).over = true then { feedB s d acc with left := (feedB s d acc).left ++ t } else if (feedB s d acc).err ≠ 0 then feedB s d acc else feedB t (feedB s d acc).d (feedB s d acc).data
  | [], t, d, acc => by simp [feedB]
  | x :: s, t, d, acc => by
    have ih := fun d acc => feedB_app s t d acc
    rw [List.cons_append, feedB, feedB]
    by_cases e1 : d.st = 2
    · rw [if_pos e1, if_pos e1]; exact ih _ _
    rw [if_neg e1, if_neg e1]
    by_cases e2 : (stepD d x.toNat).1 ≠ 0
    · rw [if_pos e2, if_pos e2, if_neg (by simp), if_pos e2]
    rw [if_neg e2, if_neg e2]
    by_cases e3 : (stepD d x.toNat).2.st = 5
    · rw [if_pos e3, if_pos e3, if_pos rfl]
    rw [if_neg e3, if_neg e3]; exact ih _ _
structure FeedSt (r : FeedR) : Prop where
  over : r.over = true ↔ r.d.st = 5
  err : r.err ≠ 0 ↔ r.d.st = 6
  left : r.over = false → r.left = []
theorem feedB_st : ∀ (s : List UInt8) (d : Dec) (acc : List UInt8), d.ok → d.st ≠ 5 → FeedSt (feedB s d acc)
  | [], d, acc, ok, n5 => by
    have := ok.2.2.2.2.2
    exact ⟨by simp [feedB, n5], by simp [feedB]; omega, fun _ => rfl⟩
  | x :: s, d, acc, ok, n5 => by
    rw [feedB]
    split
    · rename_i e
      have eo := eat_ok ok e 1 (ok.2.2.2.2.1 e).1
      exact feedB_st s _ _ eo (by simp only; split <;> omega)
    · rename_i e
      have sok := stepD_ok ok e (c := x.toNat)
      split
      · rename_i e2
        exact ⟨by simp, by simp [e2], fun _ => rfl⟩
      · rename_i e2
        have sok := sok (by omega)
        split
        · rename_i e5
          exact ⟨by simp [e5], by simp [e5], fun h => by cases h⟩
        · rename_i e5
          exact feedB_st s _ _ sok e5
theorem feedB_len : ∀ (s : List UInt8) (d : Dec) (acc : List UInt8), (feedB s d acc).data.length ≤ acc.length + s.length ∧ (feedB s d acc).left.length ≤ s.length
  | [], d, acc => by simp [feedB]
  | x :: s, d, acc => by
    rw [feedB]
    split
    · have := feedB_len s { d with sz := d.sz - 1, st := if d.sz = 1 then 3 else 2 } (acc ++ [x])
      simp only [List.length_append, List.length_cons, List.length_nil] at this ⊢
      omega
    split
    · simp
    split
    · simp only [List.length_cons]; omega
    · have := feedB_len s (stepD d x.toNat).2 acc
      simp only [List.length_cons]; omega
/-! ### Inversion -/
theorem dig_hex : ∀ k : Fin 16, hexN (dig k.val).toNat = some k.val := by decide
theorem dig_ne : ∀ k : Fin 16, (dig k.val).toNat ≠ 10 ∧ (dig k.val).toNat ≠ 13 := by decide
theorem feed_dig {k : Nat} (hk : k < 16) {len sz : Nat} (hl : len < 7) (rest acc : List UInt8) : feedB (dig k :: rest) ⟨0, len, sz, false⟩ acc = feedB rest ⟨0, len + 1, sz * 16 + k, false⟩ acc := by
  have h1 := dig_hex ⟨k, hk⟩
  obtain ⟨h2, h3⟩ := dig_ne ⟨k, hk⟩
  simp only at h1 h2 h3
  have e : stepD ⟨0, len, sz, false⟩ (dig k).toNat = (0, ⟨0, len + 1, sz * 16 + k, false⟩) := by
    simp only [stepD, stepC, cnt, if_neg h2, if_neg h3, h1]
    simp [hl]; omega
  rw [feedB, if_neg (by simp), e, if_neg (by simp), if_neg (by simp)]
theorem hexL_pow : ∀ (k n : Nat), n < 16 ^ k → 0 < k → (hexL n).length ≤ k
  | 0, _, _, h => absurd h (by omega)
  | k + 1, n, h, _ => by
    by_cases hn : n < 16
    · rw [hexL_lt hn]; simp
    · rw [hexL_ge hn, List.length_append, List.length_singleton]
      have hk : 0 < k := by
        rcases Nat.eq_zero_or_pos k with h0 | h0
        · subst h0; simp at h; omega
        · exact h0
      have := hexL_pow k (n / 16) (by rw [Nat.pow_succ] at h; omega) hk
      omega
theorem feed_hex : ∀ (n : Nat), (hexL n).length ≤ 7 → ∀ (rest acc : List UInt8), feedB (hexL n ++ rest) ⟨0, 0, 0, false⟩ acc = feedB rest ⟨0, (hexL n).length, n, false⟩ acc := by
  intro n
  induction n using Nat.strongRecOn with
  | _ n ih =>
    intro hl rest acc
    by_cases hn : n < 16
    · rw [hexL_lt hn, List.singleton_append, feed_dig hn (by omega)]
      congr 2; omega
    · rw [hexL_ge hn] at hl ⊢
      rw [List.length_append, List.length_singleton] at hl
      rw [List.append_assoc, ih (n / 16) (by omega) (by omega), List.singleton_append, feed_dig (Nat.mod_lt _ (by omega)) (by omega), List.length_append, List.length_singleton]
      congr 2; omega
theorem feed_step {x : UInt8} {d d' : Dec} (h2 : d.st ≠ 2) (e : stepD d x.toNat = (0, d')) (h5 : d'.st ≠ 5) (rest acc : List UInt8) : feedB (x :: rest) d acc = feedB rest d' acc := by
  rw [feedB, if_neg h2, e, if_neg (by simp), if_neg h5]
theorem feed_chunk (p : List UInt8) (hp : p ≠ []) (hl : p.length ≤ 2000) (rest acc : List UInt8) : feedB (chunkL p ++ rest) Dec.new acc = feedB rest Dec.new (acc ++ p) := by
  have hc : chunkL p = hexL p.length ++ [13, 10] ++ p ++ [13, 10] := if_neg hp
  have h6 := hexL_pow 6 p.length (by omega) (by omega)
  have hpos : 0 < p.length := List.length_pos_iff.2 hp
  have hx : 0 < (hexL p.length).length := by
    by_cases h : p.length < 16
    · rw [hexL_lt h]; simp
    · rw [hexL_ge h]; simp
  have e0 : chunkL p ++ rest = hexL p.length ++ (13 :: 10 :: (p ++ (13 :: 10 :: rest))) := by rw [hc]; simp
  rw [e0, show Dec.new = ⟨0, 0, 0, false⟩ from rfl, feed_hex _ (by omega)]
  generalize (hexL p.length).length = len at *
  have a1 : len ≠ 0 := by omega
  have a2 : p.length ≠ 0 := by omega
  rw [feed_step (d' := ⟨0, len, p.length, true⟩) (by simp) (by simp [stepD, stepC]; omega) (by simp),
    feed_step (d' := ⟨2, 0, p.length, false⟩) (by simp) (by show stepD _ 10 = _; simp only [stepD, lineD, true_or, if_true, if_neg a1, if_neg a2]) (by simp),
    feedB_take p.length _ _ _ rfl hpos (Nat.le_refl _) (by simp)]
  have d1 : (p ++ (13 :: 10 :: rest)).drop p.length = 13 :: 10 :: rest := by simp
  have t1 : (p ++ (13 :: 10 :: rest)).take p.length = p := by simp
  rw [d1, t1]
  simp only [if_true, Nat.sub_self]
  rw [feed_step (d' := ⟨3, 0, 0, true⟩) (by simp) (by simp [stepD, stepC]) (by simp), feed_step (d' := ⟨0, 0, 0, false⟩) (by simp) (by simp [stepD, lineD]) (by simp)]
theorem feed_chunks : ∀ (xs : List (List UInt8)), (∀ p ∈ xs, p.length ≤ 2000) → ∀ (rest acc : List UInt8), feedB (xs.flatMap chunkL ++ rest) Dec.new acc = feedB rest Dec.new (acc ++ xs.flatten)
  | [], _, rest, acc => by simp
  | p :: xs, h, rest, acc => by
    rw [List.flatMap_cons, List.append_assoc, List.flatten_cons]
    have ih := feed_chunks xs (fun q hq => h q (List.mem_cons_of_mem _ hq))
    by_cases hp : p = []
    · subst hp
      have : chunkL [] = [] := rfl
      rw [this, List.nil_append, List.nil_append, ih]
    · rw [feed_chunk p hp (h p (List.mem_cons_self ..)), ih, List.append_assoc]
theorem feed_end (tail acc : List UInt8) : feedB ([48, 13, 10, 13, 10] ++ tail) Dec.new acc = ⟨acc, tail, true, 0, ⟨5, 0, 0, false⟩⟩ := by
  show feedB (48 :: 13 :: 10 :: 13 :: 10 :: tail) _ _ = _
  rw [feed_step (d' := ⟨0, 1, 0, false⟩) (by decide) (by rfl) (by decide), feed_step (d' := ⟨0, 1, 0, true⟩) (by decide) (by rfl) (by decide), feed_step (d' := ⟨4, 0, 0, false⟩) (by decide) (by rfl) (by decide),
    feed_step (d' := ⟨4, 0, 0, true⟩) (by decide) (by rfl) (by decide)]
  rfl
theorem feed_short (acc : List UInt8) : feedB [48, 13, 10, 13] Dec.new acc = ⟨acc, [], false, 0, ⟨4, 0, 0, true⟩⟩ := rfl
/-! ### Lines -/
theorem feed_note : ∀ (n len : Nat) (rest acc : List UInt8), (len + n ≤ 128 → feedB (List.replicate n 65 ++ rest) ⟨1, len, 1, false⟩ acc = feedB rest ⟨1, len + n, 1, false⟩ acc) ∧
    (128 < len + n → len ≤ 128 → (feedB (List.replicate n 65 ++ rest) ⟨1, len, 1, false⟩ acc).data = acc ∧ (feedB (List.replicate n 65 ++ rest) ⟨1, len, 1, false⟩ acc).err = 3)
  | 0, len, rest, acc => ⟨fun _ => by simp, fun h1 h2 => by omega⟩
  | n + 1, len, rest, acc => by
    obtain ⟨h1, h2⟩ := feed_note n (len + 1) rest acc
    have e : stepD ⟨1, len, 1, false⟩ (65 : UInt8).toNat = (if len + 1 > 128 then 3 else 0, ⟨1, len + 1, 1, false⟩) := by
      show stepD ⟨1, len, 1, false⟩ 65 = _
      simp [stepD, stepC, cnt]
    rw [List.replicate_succ, List.cons_append]
    constructor
    · intro h
      rw [if_neg (by omega)] at e
      rw [feed_step (by simp) e (by simp), h1 (by omega), show len + 1 + n = len + (n + 1) by omega]
    · intro h h'
      by_cases hl : len = 128
      · rw [if_pos (by omega)] at e
        rw [feedB, if_neg (by simp), e, if_pos (by simp)]
        exact ⟨rfl, rfl⟩
      · rw [if_neg (by omega)] at e
        rw [feed_step (by simp) e (by simp)]
        exact h2 (by omega) (by omega)
theorem feed_line (n : Nat) : (n ≤ 126 → (feed Dec.new ([49, 59] ++ List.replicate n 65 ++ [10, 122])).data = [122] ∧ (feed Dec.new ([49, 59] ++ List.replicate n 65 ++ [10, 122])).err = 0) ∧
    (126 < n → (feed Dec.new ([49, 59] ++ List.replicate n 65 ++ [10, 122])).data = [] ∧ (feed Dec.new ([49, 59] ++ List.replicate n 65 ++ [10, 122])).err = 3) := by
  have e0 : feed Dec.new ([49, 59] ++ List.replicate n 65 ++ [10, 122]) = feedB (49 :: 59 :: (List.replicate n 65 ++ [10, 122])) Dec.new [] := by
    unfold feed; rw [if_neg (by decide)]; simp
  obtain ⟨h1, h2⟩ := feed_note n 2 [10, 122] []
  rw [e0, feed_step (d' := ⟨0, 1, 1, false⟩) (by decide) (by rfl) (by decide), feed_step (d' := ⟨1, 2, 1, false⟩) (by decide) (by rfl) (by decide)]
  constructor
  · intro hn
    rw [h1 (by omega), feed_step (d' := ⟨2, 0, 1, false⟩) (by simp) (by show stepD _ 10 = _; simp [stepD, lineD]) (by simp)]
    exact ⟨rfl, rfl⟩
  · intro hn
    exact h2 (by omega) (by omega)
end Go.Proofs.YtjhcockaojlfiaaDoor
