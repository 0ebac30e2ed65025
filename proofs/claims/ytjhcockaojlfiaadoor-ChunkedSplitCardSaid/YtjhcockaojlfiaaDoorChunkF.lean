/-
  Encode, long, lives.
-/
import Derived.Test.YtjhcockaojlfiaaDoorChunkE
namespace Go.Proofs.YtjhcockaojlfiaaDoor
set_option linter.unusedSimpArgs false
set_option linter.unusedVariables false
set_option maxRecDepth 20000
open Go
open Go.IntKind (wrap)
def strV (l : List UInt8) : List Value := [.string (bs l)]
abbrev StrsOk (h : Heap) (s : Sl (List UInt8)) : Prop := SlOk 1 strV sOk h s
theorem StrsOk.fr0 {h h' : Heap} {s : Sl (List UInt8)} (f : Fr (fun _ => False) h h') (o : StrsOk h s) : StrsOk h' s := SlOk.fr0 fr_c f o
structure Small (xs : List (List UInt8)) : Prop where
  len : xs.length ≤ 60
  each : ∀ i (hi : i < xs.length), xs[i].length ≤ 2000
  sum : (xs.map List.length).sum ≤ 2000
def chunkL (p : List UInt8) : List UInt8 := if p = [] then [] else hexL p.length ++ [13, 10] ++ p ++ [13, 10]
def encL (xs : List (List UInt8)) : List UInt8 := xs.flatMap chunkL ++ [48, 13, 10, 13, 10]
theorem hexL_len : ∀ n, (hexL n).length ≤ n + 1 := by
  intro n
  induction n using Nat.strongRecOn with
  | _ n ih =>
    by_cases h : n < 16
    · rw [hexL_lt h]; simp
    · rw [hexL_ge h, List.length_append]
      have := ih (n / 16) (by omega)
      simp only [List.length_singleton]; omega
theorem take_one {α : Type} (xs : List α) (k : Nat) (hk : k < xs.length) : xs.take (k + 1) = xs.take k ++ [xs[k]] := by
  rw [List.take_add_one, List.getElem?_eq_getElem hk]; rfl
theorem flat_one (xs : List (List UInt8)) (k : Nat) (hk : k < xs.length) : (xs.take (k + 1)).flatMap chunkL = (xs.take k).flatMap chunkL ++ chunkL xs[k] := by
  rw [take_one xs k hk, List.flatMap_append]; simp
theorem bnl : (⟨#[13, 10]⟩ : ByteArray) = bs [13, 10] := rfl
theorem bend : (⟨#[48, 13, 10, 13, 10]⟩ : ByteArray) = bs [48, 13, 10, 13, 10] := rfl
theorem Encode_c [Gh] {h : Heap} {s : Sl (List UInt8)} (o : StrsOk h s) (sm : Small s.xs) (t : TZ h) {Q : Value → Heap → Prop} (hk : ∀ h', Fr (fun _ => False) h h' → Q (.string (bs (encL s.xs))) h') :
    CallT Tryd.prog fn_chunked_Encode #[s.v] h Q := by
  apply chunked_Encode_s
  unfold chunked_Encode_v
  rw [bnil]
  have hlen := sm.len
  refine LoopV.mk (fun st h' => ∃ k : Nat, st = (bs ((s.xs.take k).flatMap chunkL), (k : Int)) ∧ k ≤ s.xs.length ∧ Fr (fun _ => False) h h' ∧ ((s.xs.take k).flatMap chunkL).length ≤ k * 5000) (fun st _ => s.xs.length - st.2.toNat) ⟨0, rfl, by omega, Fr.refl _ _, by simp⟩ ?_
  rintro - h1 ⟨k, rfl, hkl, f1, hsz⟩
  unfold chunked_Encode_l1
  simp only
  have o1 := o.fr0 f1
  refine ifD (fun hb => ?_) fun hb => ?_
  · have hk2 : k < s.xs.length := by omega
    have hone := flat_one s.xs k hk2
    have hE := sm.each k hk2
    refine idx_sl o1 k rfl hk2 fun ad c2 _ => ?_
    rw [Int.toNat_natCast]
    refine ldS_mk (c2.at0 rfl) ?_
    rw [wr (x := (k : Int) + 1) (by omega) (by omega), bs_toList, bnil, bs_toList]
    generalize s.xs[k] = p at *
    refine ifN (fun e => ?_) fun e => ?_
    · have e : p ≠ [] := by simpa using e
      have hch : chunkL p = hexL p.length ++ [13, 10] ++ p ++ [13, 10] := if_neg e
      rw [bs_size]
      refine FormatInt_c p.length (by omega) (t.fr f1 id) fun h2 f2 => ⟨_, rfl, ?_⟩
      have hx := hexL_len p.length
      rw [bnl, bs_append, bs_append, bs_append, bs_append, ← hch, ← hone]
      have hl : (chunkL p).length = (hexL p.length).length + 2 + p.length + 2 := by rw [hch]; simp; omega
      refine ⟨?_, ?_, ?_, ?_, ⟨k + 1, rfl, by omega, f1.trans f2, ?_⟩, ?_⟩
      · rw [bs_size, bs_size, imax]; simp only [List.length_cons, List.length_nil]; omega
      · rw [bs_size, imax]; simp only [List.length_append, List.length_cons, List.length_nil]; omega
      · rw [bs_size, bs_size, imax]; simp only [List.length_append, List.length_cons, List.length_nil]; omega
      · rw [bs_size, bs_size, imax]; omega
      · rw [hone, List.length_append]; omega
      · omega
    · have e : p = [] := by simpa using e
      subst e
      have hch : chunkL [] = [] := rfl
      rw [hch, List.append_nil] at hone
      rw [← hone]
      refine ⟨⟨k + 1, rfl, by omega, f1, ?_⟩, ?_⟩
      · rw [hone]; omega
      · omega
  · have e : k = s.xs.length := by omega
    subst e
    rw [List.take_length] at hsz ⊢
    rw [bend, bs_append]
    refine ⟨?_, hk h1 f1⟩
    rw [bs_size, bs_size, imax]; simp only [List.length_cons, List.length_nil]; omega
theorem rEncode_c [Gh] {h : Heap} {s : Sl (List UInt8)} (o : StrsOk h s) (sm : Small s.xs) {Q : Value → Heap → Prop} (hk : Q (.string (bs (encL s.xs))) h) :
    CallT Tryd.prog fn_ref27_Encode #[s.v] h Q := by
  apply ref27_Encode_s
  unfold ref27_Encode_v
  rw [bnil]
  have hlen := sm.len
  refine LoopV.mk (fun st h' => h' = h ∧ ∃ k : Nat, st = (bs ((s.xs.take k).flatMap chunkL), (k : Int)) ∧ k ≤ s.xs.length ∧ ((s.xs.take k).flatMap chunkL).length ≤ k * 5000) (fun st _ => s.xs.length - st.2.toNat) ⟨rfl, 0, rfl, by omega, by simp⟩ ?_
  rintro - _ ⟨rfl, k, rfl, hkl, hsz⟩
  unfold ref27_Encode_l1
  simp only
  refine ifD (fun hb => ?_) fun hb => ?_
  · have hk2 : k < s.xs.length := by omega
    have hone := flat_one s.xs k hk2
    have hE := sm.each k hk2
    refine idx_sl o k rfl hk2 fun ad c2 _ => ?_
    rw [Int.toNat_natCast]
    refine ldS_mk (c2.at0 rfl) ?_
    rw [wr (x := (k : Int) + 1) (by omega) (by omega), bs_toList, bnil, bs_toList]
    refine ifN (fun e => ?_) fun e => ?_
    · refine idx_sl o k rfl hk2 fun ad2 c3 _ => ?_
      refine ldS_mk (c3.at0 rfl) ?_
      refine idx_sl o k rfl hk2 fun ad4 c4 _ => ?_
      refine ldS_mk (c4.at0 rfl) ?_
      generalize s.xs[k] = p at *
      have e : p ≠ [] := by simpa using e
      have hch : chunkL p = hexL p.length ++ [13, 10] ++ p ++ [13, 10] := if_neg e
      rw [bs_size]
      refine rhex_c p.length (by omega) ⟨_, rfl, ldS_mk (c4.at0 rfl) rfl, ?_⟩
      have hx := hexL_len p.length
      rw [bnl, bs_append, bs_append, bs_append, bs_append, ← hch, ← hone]
      have hl : (chunkL p).length = (hexL p.length).length + 2 + p.length + 2 := by rw [hch]; simp; omega
      refine ⟨?_, ?_, ?_, ?_, ⟨by trivial, k + 1, rfl, by omega, ?_⟩, ?_⟩
      · rw [bs_size, bs_size, imax]; simp only [List.length_cons, List.length_nil]; omega
      · rw [bs_size, imax]; simp only [List.length_append, List.length_cons, List.length_nil]; omega
      · rw [bs_size, bs_size, imax]; simp only [List.length_append, List.length_cons, List.length_nil]; omega
      · rw [bs_size, bs_size, imax]; omega
      · rw [hone, List.length_append]; omega
      · omega
    · generalize s.xs[k] = p at *
      have e : p = [] := by simpa using e
      subst e
      have hch : chunkL [] = [] := rfl
      rw [hch, List.append_nil] at hone
      rw [← hone]
      refine ⟨⟨by trivial, k + 1, rfl, by omega, ?_⟩, ?_⟩
      · rw [hone]; omega
      · omega
  · have e : k = s.xs.length := by omega
    subst e
    rw [List.take_length] at hsz ⊢
    rw [bend, bs_append]
    refine ⟨?_, hk⟩
    rw [bs_size, bs_size, imax]; simp only [List.length_cons, List.length_nil]; omega
theorem long_c [Gh] {h : Heap} {s : Sl (List UInt8)} (o : StrsOk h s) {Q : Value → Heap → Prop} (hk : ∀ b : Bool, (b = false → Small s.xs) → Q (.bool b) h) :
    CallT Tryd.prog fn_law27_long #[s.v] h Q := by
  apply law27_long_s
  unfold law27_long_v
  have hcap := o.cap
  refine LoopV.mk (fun st h' => h' = h ∧ ∃ k n : Nat, st = ((n : Int), (k : Int)) ∧ k ≤ s.xs.length ∧ k ≤ 61 ∧ n = ((s.xs.take k).map List.length).sum ∧ n ≤ k * 2000 ∧ ∀ i (hi : i < s.xs.length), i < k → s.xs[i].length ≤ 2000) (fun st _ => s.xs.length - st.2.toNat)
    ⟨rfl, 0, 0, rfl, by omega, by omega, rfl, by omega, fun i _ h => by omega⟩ ?_
  rintro - h1 ⟨rfl, k, n, rfl, hkl, h61, hn, hn2, he⟩
  have b2 : ¬ (k < s.xs.length ∧ k < 61) → law27_long_b2 s.p s.xs.length s.cap n Q h1 := fun hne => by
    unfold law27_long_b2
    refine ifD (fun hb => ?_) fun hb => ?_
    · exact hk true (fun h => by cases h)
    · refine hk _ fun hd => ?_
      have ek : k = s.xs.length := by omega
      subst ek
      rw [List.take_length] at hn
      have hd := of_decide_eq_false hd
      exact ⟨by omega, fun i hi => he i hi hi, by omega⟩
  unfold law27_long_l1
  simp only
  refine ifD (fun hb => ?_) fun hb => b2 (by omega)
  refine ifD (fun hb2 => ?_) fun hb2 => b2 (by omega)
  have hk2 : k < s.xs.length := by omega
  refine idx_sl o k rfl hk2 fun ad c2 _ => ?_
  rw [Int.toNat_natCast]
  refine ldS_mk (c2.at0 rfl) ?_
  rw [bs_size]
  refine ifD (fun hb3 => hk true (fun h => by cases h)) fun hb3 => ?_
  refine idx_sl o k rfl hk2 fun ad c2 _ => ?_
  refine ldS_mk (c2.at0 rfl) ?_
  rw [bs_size, wr (by omega) (by omega), wr (by omega) (by omega)]
  refine ⟨⟨by trivial, k + 1, n + s.xs[k].length, by rw [Prod.mk.injEq]; omega, by omega, by omega, ?_, by omega, ?_⟩, ?_⟩
  · rw [take_one _ k hk2, List.map_append, List.sum_append, ← hn]; simp
  · intro i hi h2
    by_cases e : i = k
    · subst e; omega
    · exact he i hi (by omega)
  · omega
theorem lives_c [Gh] {h : Heap} (t : TZ h) {Q : Value → Heap → Prop} (hk : ∀ h', Fr (fun _ => False) h h' → Q (.bool true) h') : CallT Tryd.prog fn_law27_lives #[] h Q := by
  apply law27_lives_s
  unfold law27_lives_v
  refine New_c fun a h1 f1 e1 o1 => ⟨_, rfl, ?_⟩
  rw [if_neg (by simp)]
  have e : feed Dec.new [51, 13, 10, 97, 98, 99, 13, 10, 48, 13, 10, 13, 10, 120, 121] = ⟨[97, 98, 99], [120, 121], true, 0, ⟨5, 0, 0, false⟩⟩ := by kernel_rfl
  refine Feed_c o1 (.inr new_ok) [51, 13, 10, 97, 98, 99, 13, 10, 48, 13, 10, 13, 10, 120, 121] (by decide) fun h2 f2 o2 => ?_
  rw [e] at o2 ⊢
  refine ⟨_, _, _, _, rfl, ?_⟩
  have f02 : Fr (fun _ => False) h h2 := f1.tr f2 fun x hx hi => by omega
  refine ifS (m := [97, 98, 99]) (fun _ => ?_) fun hn => absurd rfl hn
  refine ifS (m := [120, 121]) (fun _ => ?_) fun hn => absurd rfl hn
  rw [if_pos rfl, if_pos (by rfl)]
  refine Done_c o2 ⟨_, rfl, ?_⟩
  rw [if_pos (by rfl)]
  refine al_mk (vs := [.string (bs [97, 98]), .string (bs [])]) fun a3 h3 f3 e3 o3 => ?_
  have f03 := f02.trans f3
  have ok : StrsOk h3 ⟨some a3, 2, [[97, 98], []]⟩ := SlOk.of_own (vals := strV) (xs := [[97, 98], []]) (fun _ => rfl) o3 (by decide) (fun x hx => by
    simp at hx; rcases hx with rfl | rfl <;> simp [sOk])
  have sm : Small [[97, 98], []] := ⟨by decide, fun i hi => by
    match i, hi with
    | 0, _ => exact (by decide : 2 ≤ 2000)
    | 1, _ => exact (by decide : 0 ≤ 2000), by decide⟩
  refine Encode_c ok sm (t.fr f03 id) fun h4 f4 => ⟨_, rfl, ?_⟩
  · have e : encL [[97, 98], []] = [50, 13, 10, 97, 98, 13, 10, 48, 13, 10, 13, 10] := by
      have h2 : hexL 2 = [50] := by rw [hexL_lt (by decide)]; rfl
      simp [encL, chunkL, h2]
    have e2 : (bs (encL [[97, 98], []])).toList = [50, 13, 10, 97, 98, 13, 10, 48, 13, 10, 13, 10] := by rw [bs_toList, e]
    rw [e2, show (⟨#[50, 13, 10, 97, 98, 13, 10, 48, 13, 10, 13, 10]⟩ : ByteArray) = bs [50, 13, 10, 97, 98, 13, 10, 48, 13, 10, 13, 10] from rfl, bs_toList, beq_self_eq_true]
    exact hk h4 (f03.trans f4)
end Go.Proofs.YtjhcockaojlfiaaDoor
