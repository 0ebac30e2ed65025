/-
  The reference's score; small letters.
-/
import Derived.Test.YtjelnknmjhceiaaFastA
namespace Go.Proofs.Ytjelnknmjhceiaa
set_option linter.unusedSimpArgs false
set_option linter.unusedVariables false
set_option maxRecDepth 20000
open Go
theorem el_bool : ElemT Try.prog T_sl_bool T_bool Try.t4 (.bool false) := ⟨Try.underlying61, by kernel_rfl, by kernel_rfl, by kernel_rfl, by decide⟩
theorem rScore_c [Gh] (s : List UInt8) (hs : s.length < 2 ^ 40) {h : Heap} {Q : Value → Heap → Prop} (hk : ∀ h', Fr (fun _ => False) h h' → Q (.int .i64 (scoreL s)) h') :
    CallT Try.prog fn_ref46_Score #[.string (bs s)] h Q := by
  refine ref46_Score_s _ ?_
  unfold ref46_Score_v
  refine ifS0 (fun e => ?_) (fun e => ?_)
  · subst e; exact hk _ (Fr.refl _ _)
  refine mkSl_mk el_bool 256 (by decide) (by decide) fun a h1 f1 ha o1 => ⟨_, _, _, rfl, ?_⟩
  have o1 : Own h1 a (List.replicate 256 (Value.bool false)) T_bool := by
    have e1 : (List.replicate 256 (Value.bool false).cells.toList).flatten = List.replicate 256 (Value.bool false) := by
      show (List.replicate 256 [Value.bool false]).flatten = _
      simp
    rw [e1] at o1; exact o1
  rw [bs_size]
  rw [← seenV_nil] at o1
  refine LoopV.mk (fun st h' => ∃ (k : Nat) (seen : List UInt8), st.2 = k ∧ k ≤ s.length ∧ Fr (fun _ => False) h h' ∧ Own h' a (seenV seen).toList T_bool ∧ scoreGo (s.drop k) seen st.1 = scoreGo s [] s.length ∧ st.1 ≤ s.length + 16 * k ∧ (s.length : Int) - 8 * k ≤ st.1) (fun st _ => s.length - st.2.toNat)
    ⟨0, [], rfl, by omega, f1, o1, rfl, by simp, by simp⟩ ?_
  rintro ⟨n, i⟩ h2 ⟨k, seen, hi, hkl, f2, o2, hg, hn1, hn2⟩
  simp only at hi hg hn1 hn2
  subst hi
  unfold ref46_Score_l1
  refine ifD (fun hlt => ?_) (fun hge => ?_)
  · rw [bs_size] at hlt
    have hks : k < s.length := by omega
    have hc := (s.getD k 0).toNat_lt
    refine idxS_bs _ _ _ (by omega) (by omega) ?_
    rw [Int.toNat_natCast]
    refine ⟨by omega, by omega, ldB_mk (seen_at o2 _) ?_⟩
    have rest : ∀ (n' : Int), n' = n + (if seen.contains (s.getD k 0) then 0 else 16) →
        ref46_Score_b2 (bs s) n' (some a) 256 256 k Q (fun s' h' => (∃ (k : Nat) (seen : List UInt8), s'.2 = k ∧ k ≤ s.length ∧ Fr (fun _ => False) h h' ∧ Own h' a (seenV seen).toList T_bool ∧ scoreGo (s.drop k) seen s'.1 = scoreGo s [] s.length ∧ s'.1 ≤ s.length + 16 * k ∧ (s.length : Int) - 8 * k ≤ s'.1) ∧ s.length - s'.2.toNat < s.length - ((k : Int)).toNat) h2 := by
      intro n' en
      unfold ref46_Score_b2
      refine idxS_bs _ _ _ (by omega) (by omega) ?_
      rw [Int.toNat_natCast]
      refine ⟨by omega, by omega, nn_mk ?_⟩
      rw [Int.toNat_natCast, Nat.mul_one]
      refine st1_own o2 _ (by rw [Array.length_toList, seenV_size]; omega) rfl fun h3 f3' _ o3 => ?_
      rw [seen_set] at o3
      have f3 : Fr (fun _ => False) h h3 := f2.tr f3' (fun x hx e => by subst e; rw [ha] at hx; exact absurd hx (Nat.lt_irrefl _))
      refine idxS_bs _ _ _ (by omega) (by omega) ?_
      rw [Int.toNat_natCast]
      refine rcommon_c _ ⟨_, rfl, ?_⟩
      have hb : (if seen.contains (s.getD k 0) then (0 : Int) else 16) ≤ 16 ∧ 0 ≤ (if seen.contains (s.getD k 0) then (0 : Int) else 16) := by split <;> omega
      rw [scoreGo_drop s seen n k hks, ← en] at hg
      rw [wr (x := (k : Int) + 1) (by omega) (by omega)]
      refine ifB (fun hcm => ?_) (fun hcm => ?_)
      · rw [wr (by omega) (by omega)]
        rw [hcm, if_pos rfl] at hg
        exact ⟨⟨k + 1, _, by simp, by omega, f3, o3, hg, by simp only; omega, by simp only; omega⟩, by simp only; omega⟩
      · rw [hcm, if_neg (by simp), Int.sub_zero] at hg
        exact ⟨⟨k + 1, _, by simp, by omega, f3, o3, hg, by simp only; omega, by simp only; omega⟩, by simp only; omega⟩
    refine ifN (fun hs0 => ?_) (fun hs1 => ?_)
    · rw [wr (by omega) (by omega)]
      exact rest _ (by rw [hs0]; simp)
    · exact rest _ (by rw [hs1]; simp)
  · rw [bs_size] at hge
    have : k = s.length := by omega
    subst this
    unfold ref46_Score_b3
    rw [List.drop_length] at hg
    have : scoreL s = (if (1 : Int) > n then (1 : Int) else n) := by
      unfold scoreL
      rw [if_neg e, ← hg]; rfl
    rw [← this]
    exact hk _ f2
def lowB (c : UInt8) : UInt8 := if 65 ≤ c.toNat ∧ c.toNat ≤ 90 then c + 32 else c
theorem low_num (c : UInt8) (h1 : 65 ≤ c.toNat) (h2 : c.toNat ≤ 90) : ((lowB c).toNat : Int) = c.toNat + 32 := by
  unfold lowB; rw [if_pos ⟨h1, h2⟩, UInt8.toNat_add]
  have : (32 : UInt8).toNat = 32 := rfl
  rw [this]; omega
/-- Letters made small as far as k. -/
def lowTo (s : List UInt8) (k : Nat) : List UInt8 := (s.take k).map lowB ++ s.drop k
theorem lowTo_len (s : List UInt8) (k : Nat) : (lowTo s k).length = s.length := by unfold lowTo; simp; omega
theorem lowTo_zero (s : List UInt8) : lowTo s 0 = s := by simp [lowTo]
theorem lowTo_all (s : List UInt8) : lowTo s s.length = s.map lowB := by simp [lowTo]
theorem lowTo_get (s : List UInt8) (k : Nat) (hk : k < s.length) : (lowTo s k)[k]? = some (s.getD k 0) := by
  unfold lowTo
  rw [List.getElem?_append_right (by simp; omega)]
  simp [Nat.min_eq_left (Nat.le_of_lt hk), hk]
theorem lowTo_succ (s : List UInt8) (k : Nat) (hk : k < s.length) : lowTo s (k + 1) = (lowTo s k).set k (lowB (s.getD k 0)) := by
  apply List.ext_getElem?
  intro i
  unfold lowTo
  rw [List.getElem?_set]
  by_cases h1 : i < k
  · rw [List.getElem?_append_left (by simp; omega), if_neg (by omega), List.getElem?_append_left (by simp; omega)]
    simp [h1, Nat.lt_succ_of_lt h1]
  · by_cases h2 : i = k
    · subst h2
      rw [List.getElem?_append_left (by simp; omega), if_pos rfl, if_pos (by simp; omega)]
      simp [hk]
    · rw [List.getElem?_append_right (by simp; omega), if_neg (by omega), List.getElem?_append_right (by simp; omega)]
      simp only [List.length_map, List.length_take, List.getElem?_drop]
      congr 1; omega
/-- A row of bytes that the call owns. -/
def BRow (h : Heap) (a : Option Addr) (c : Nat) (l : List UInt8) : Prop := OwnC h a c 1 (bytesV l)
theorem BRow.at {h : Heap} {a : Option Addr} {c : Nat} {l : List UInt8} (o : BRow h a c l) {k : Nat} (hk : k < l.length) : ∃ ad, a = some ad ∧ hcell h (ad.add k) = some (.int .u8 (l.getD k 0).toNat) := by
  cases a with
  | none => have := o.1; simp [bytesV] at this; subst this; simp at hk
  | some ad =>
    refine ⟨ad, rfl, ?_⟩
    refine o.cells.at ?_
    simp [bytesV, byteV, hk]
theorem BRow.set {h : Heap} {ad : Addr} {c : Nat} {l : List UInt8} (o : BRow h (some ad) c l) {k : Nat} (hk : k < l.length) (b : UInt8) {K : Heap → Prop}
    (hK : ∀ h', Fr (InA (some ad)) h h' → BRow h' (some ad) c (l.set k b) → K h') : st1 h (ad.add k) (.int .u8 b.toNat) K := by
  obtain ⟨h1, h2, ds, t, fr, hfr, hg, hc1, hc2, hc3⟩ := o
  have e : ad.add k = ⟨ad.block, k, none⟩ := by
    obtain ⟨b, o, s⟩ := ad; simp only at h1 h2; subst h1 h2; rw [add_mk, Nat.zero_add]
  rw [bytesV_len] at hc2
  rw [e]
  refine ⟨rfl, by rw [hcell_blk hg, Array.getElem?_eq_getElem (by omega)]; rfl, hfrozen_ok hg hfr (by omega), ?_⟩
  rw [hset_blk hg]
  refine hK _ (Fr.set _ _ ⟨ad, rfl, rfl⟩) ⟨h1, h2, _, t, fr, by simpa using hfr, get_set hg, by simpa using hc1, by simp [bytesV_len]; omega, ?_⟩
  intro i hi
  rw [bytesV_len, List.length_set] at hi
  rw [Array.getElem?_setIfInBounds]
  by_cases hik : k = i
  · subst hik
    rw [if_pos rfl, if_pos (by omega)]
    simp [bytesV, byteV, hi]
  · rw [if_neg hik, hc3 i (by rw [bytesV_len]; exact hi)]
    simp [bytesV, byteV, hik]
theorem inv_low {s : List UInt8} {h : Heap} {a : Option Addr} {c : Nat} (o : BRow h a c s) : BRow h a c (lowTo s 0) := by rw [lowTo_zero]; exact o
theorem low_skip (s : List UInt8) (k : Nat) (hk : k < s.length) (hn : ¬ (65 ≤ (s.getD k 0).toNat ∧ (s.getD k 0).toNat ≤ 90)) : lowTo s (k + 1) = lowTo s k := by
  rw [lowTo_succ s k hk]
  have : lowB (s.getD k 0) = s.getD k 0 := if_neg hn
  rw [this]
  apply List.ext_getElem?
  intro i
  rw [List.getElem?_set]
  split
  · rename_i e; subst e
    rw [lowTo_get s k hk, if_pos (by rw [lowTo_len]; exact hk)]
  · rfl
theorem small_c [Gh] (s : List UInt8) (hs : s.length < 2 ^ 40) {h : Heap} {Q : Value → Heap → Prop} (hk : ∀ h', Fr (fun _ => False) h h' → Q (.string (bs (s.map lowB))) h') :
    CallT Try.prog fn_fastpattern_small #[.string (bs s)] h Q := by
  refine fastpattern_small_s _ ?_
  unfold fastpattern_small_v
  refine convSB_mk Try.underlying9 Try.underlying87 Try.underlying5 s fun a c h1 f1 ha o1 hc => ⟨_, _, _, rfl, ?_⟩
  refine LoopV.mk (fun i h' => ∃ k : Nat, i = k ∧ k ≤ s.length ∧ Fr (fun _ => False) h h' ∧ BRow h' a c (lowTo s k)) (fun i _ => s.length - i.toNat) ⟨0, rfl, by omega, f1, inv_low o1⟩ ?_
  rintro i h2 ⟨k, rfl, hkl, f2, o2⟩
  unfold fastpattern_small_l1
  refine ifD (fun hlt => ?_) (fun hge => ?_)
  · have hks : k < s.length := by omega
    obtain ⟨ad, rfl, hcell⟩ := o2.at (k := k) (by rw [lowTo_len]; exact hks)
    have hgd : (lowTo s k).getD k 0 = s.getD k 0 := by rw [List.getD_eq_getElem?_getD, lowTo_get s k hks]; rfl
    rw [hgd] at hcell
    have hc8 := (s.getD k 0).toNat_lt
    refine idxA_mk k rfl hks (nn_mk ?_)
    rw [Int.toNat_natCast, Nat.mul_one]
    refine ldI_mk hcell ?_
    have skip : ¬ (65 ≤ (s.getD k 0).toNat ∧ (s.getD k 0).toNat ≤ 90) → (∃ k' : Nat, IntKind.wrap .i64 ((k : Int) + 1) = k' ∧ k' ≤ s.length ∧ Fr (fun _ => False) h h2 ∧ BRow h2 (some ad) c (lowTo s k')) ∧ s.length - (IntKind.wrap .i64 ((k : Int) + 1)).toNat < s.length - ((k : Int)).toNat := fun hn => by
      rw [wr (by omega) (by omega)]
      exact ⟨⟨k + 1, by omega, by omega, f2, by rw [low_skip s k hks hn]; exact o2⟩, by omega⟩
    refine ifD (fun h65 => ?_) (fun h65 => skip (by omega))
    refine ifD (fun h90 => ?_) (fun h90 => skip (by omega))
    refine idxA_mk k rfl hks (nn_mk ?_)
    rw [wr8 (by omega) (by omega), ← low_num _ (by omega) (by omega)]
    refine o2.set (by rw [lowTo_len]; exact hks) _ fun h3 f3 o3 => ?_
    rw [← lowTo_succ s k hks] at o3
    rw [wr (by omega) (by omega)]
    exact ⟨⟨k + 1, by omega, by omega, f2.tr f3 (fun x hx hi => absurd (ha x hi) (by omega)), o3⟩, by omega⟩
  · have : k = s.length := by omega
    subst this
    rw [lowTo_all] at o2
    refine conv_bytes Try.underlying87 Try.underlying9 Try.underlying5 (l := s.map lowB) (by simp) (fun ad hd => by subst hd; exact o2.cells) (fun hd => by subst hd; have := o2.1; simpa [bytesV] using this) ⟨_, rfl, ?_⟩
    exact hk _ f2
theorem rSmall_c [Gh] (s : List UInt8) (hs : s.length < 2 ^ 40) {h : Heap} {Q : Value → Heap → Prop} (hk : ∀ h', Fr (fun _ => False) h h' → Q (.string (bs (s.map lowB))) h') :
    CallT Try.prog fn_ref46_Small #[.string (bs s)] h Q := by
  refine ref46_Small_s _ ?_
  unfold ref46_Small_v
  refine convSB_mk Try.underlying9 Try.underlying87 Try.underlying5 s fun a c h1 f1 ha o1 hc => ⟨_, _, _, rfl, ?_⟩
  refine LoopV.mk (fun i h' => ∃ k : Nat, i = k ∧ k ≤ s.length ∧ Fr (fun _ => False) h h' ∧ BRow h' a c (lowTo s k)) (fun i _ => s.length - i.toNat) ⟨0, rfl, by omega, f1, inv_low o1⟩ ?_
  rintro i h2 ⟨k, rfl, hkl, f2, o2⟩
  unfold ref46_Small_l1
  refine ifD (fun hlt => ?_) (fun hge => ?_)
  · have hks : k < s.length := by omega
    obtain ⟨ad, rfl, hcell⟩ := o2.at (k := k) (by rw [lowTo_len]; exact hks)
    have hgd : (lowTo s k).getD k 0 = s.getD k 0 := by rw [List.getD_eq_getElem?_getD, lowTo_get s k hks]; rfl
    rw [hgd] at hcell
    have hc8 := (s.getD k 0).toNat_lt
    refine idxA_mk k rfl hks (nn_mk ?_)
    rw [Int.toNat_natCast, Nat.mul_one]
    refine ldI_mk hcell ?_
    have skip : ¬ (65 ≤ (s.getD k 0).toNat ∧ (s.getD k 0).toNat ≤ 90) → (∃ k' : Nat, IntKind.wrap .i64 ((k : Int) + 1) = k' ∧ k' ≤ s.length ∧ Fr (fun _ => False) h h2 ∧ BRow h2 (some ad) c (lowTo s k')) ∧ s.length - (IntKind.wrap .i64 ((k : Int) + 1)).toNat < s.length - ((k : Int)).toNat := fun hn => by
      rw [wr (by omega) (by omega)]
      exact ⟨⟨k + 1, by omega, by omega, f2, by rw [low_skip s k hks hn]; exact o2⟩, by omega⟩
    refine ifD (fun h65 => ?_) (fun h65 => skip (by omega))
    refine idxA_mk k rfl hks (nn_mk (ldI_mk hcell ?_))
    refine ifD (fun h90 => ?_) (fun h90 => skip (by omega))
    refine idxA_mk k rfl hks (nn_mk (ldI_mk hcell ?_))
    refine idxA_mk k rfl hks (nn_mk ?_)
    rw [wr8 (by omega) (by omega), ← low_num _ (by omega) (by omega)]
    refine o2.set (by rw [lowTo_len]; exact hks) _ fun h3 f3 o3 => ?_
    rw [← lowTo_succ s k hks] at o3
    rw [wr (by omega) (by omega)]
    exact ⟨⟨k + 1, by omega, by omega, f2.tr f3 (fun x hx hi => absurd (ha x hi) (by omega)), o3⟩, by omega⟩
  · have : k = s.length := by omega
    subst this
    rw [lowTo_all] at o2
    refine conv_bytes Try.underlying87 Try.underlying9 Try.underlying5 (l := s.map lowB) (by simp) (fun ad hd => by subst hd; exact o2.cells) (fun hd => by subst hd; have := o2.1; simpa [bytesV] using this) ⟨_, rfl, ?_⟩
    exact hk _ f2
end Go.Proofs.Ytjelnknmjhceiaa
