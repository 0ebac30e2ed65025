/-
  The law Pending.
-/
import Derived.Test.YtdpimhlppflidaaDoorSmN
namespace Go.Proofs.YtdpimhlppflidaaDoor
set_option linter.unusedSimpArgs false
set_option linter.unusedVariables false
set_option maxRecDepth 20000
open Go
open Go.IntKind (wrap)
theorem rep_flat : ∀ n, (List.replicate n (Value.int .u8 0).cells.toList).flatten = (List.replicate n (0 : UInt8)).flatMap bV
  | 0 => rfl
  | n + 1 => by rw [List.replicate_succ, List.flatten_cons, rep_flat n, List.replicate_succ, List.flatMap_cons]; rfl
theorem Row.setB [Gh] {h : Heap} {p : Option Addr} {cap : Nat} {L : Nm} (R : Row 1 bV h p cap L) {n : Int} {len : Nat} (i : Nat) (hn : n = i) (hl : len = L.length) (hi : i < L.length) (x : UInt8) {c : Int} (hc : c = byteI x) {K : Heap → Prop} (hk : ∀ h', Fr (InA p) h h' → Row 1 bV h' p cap (L.set i x) → K h') :
    idxA n len (nn p fun a => st1 h (a.add (n.toNat * 1)) (.int .u8 c) K) := by
  subst hc hl
  refine idxA_mk i hn hi ?_
  obtain ⟨ad, hp, _⟩ := R.cellsAt bV_len (by omega) i hi
  subst hp
  refine nn_mk ?_
  rw [hn, Int.toNat_natCast]
  have := R.set1 bV_len i hi rfl (j := 0) (by omega) (v := .int .u8 (byteI x)) rfl (e' := x) rfl hk
  rw [add_add, Nat.add_zero] at this
  exact this
theorem SmtpPending_c [Gh] (n at_ : Int) {h : Heap} (_ : kOk .i64 h n) (_ : kOk .i64 h at_) {Q : Value → Heap → Prop} (hk : ∀ h', Fr (fun _ => False) h h' → Q (.bool true) h') : CallT Tryd.prog fn_law30_SmtpPending #[.int .i64 n, .int .i64 at_] h Q := by
  apply law30_SmtpPending_s
  unfold law30_SmtpPending_v
  refine lives_c fun h1 f1 => ⟨_, rfl, ?_⟩
  rw [if_neg (by decide)]
  refine ifD (fun _ => hk h1 f1) fun e1 => ifD (fun _ => hk h1 f1) fun e2 => ifD (fun _ => hk h1 f1) fun e3 => ifD (fun _ => hk h1 f1) fun e4 => ?_
  obtain ⟨n, rfl⟩ : ∃ m : Nat, n = m := ⟨n.toNat, by omega⟩
  obtain ⟨a, rfl⟩ : ∃ m : Nat, at_ = m := ⟨at_.toNat, by omega⟩
  refine mkSl_mk el_u8 n rfl (by
    have : (Tryd.t5).bytes = 1 := by kernel_rfl
    rw [this]; omega) fun ad h2 f2 e5 o2 => ⟨_, _, _, rfl, ?_⟩
  rw [rep_flat] at o2
  have z1 := f1.size
  have z2 := f2.size
  have R2 := Row.of_own bV_len o2
  rw [List.length_replicate] at R2
  refine LoopV.go (fun k s h' => ∃ i : Nat, s = (i : Int) ∧ i ≤ n ∧ k = n - i ∧ Fr (fun _ => False) h h' ∧ Row 1 bV h' (some ad) n (List.replicate i 10 ++ List.replicate (n - i) 0)) n ⟨0, rfl, by omega, rfl, f1.trans f2, R2⟩ ?_
  rintro k - h3 ⟨i, rfl, hi, rfl, f3, R3⟩ Kn hK
  unfold law30_SmtpPending_l1
  have hlen : (List.replicate i (10 : UInt8) ++ List.replicate (n - i) 0).length = n := by rw [List.length_append, List.length_replicate, List.length_replicate]; omega
  refine ifD (fun e => ?_) fun e => ?_
  · have hlt : i < n := by omega
    refine R3.setB i rfl hlen.symm (by omega) 10 rfl fun h4 f4 R4 => ?_
    have hs : (List.replicate i (10 : UInt8) ++ List.replicate (n - i) 0).set i 10 = List.replicate (i + 1) 10 ++ List.replicate (n - (i + 1)) 0 := by
      obtain ⟨m, hm⟩ : ∃ m, n - i = m + 1 := ⟨n - i - 1, by omega⟩
      rw [hm, List.set_append_right _ _ (by simp), List.length_replicate, Nat.sub_self, List.replicate_succ (n := m), List.set_cons_zero, List.replicate_succ' (n := i), List.append_assoc, show n - (i + 1) = m by omega]; rfl
    rw [hs] at R4
    rw [wr (by omega) (by omega)]
    refine hK (n - (i + 1)) _ _ (by omega) ⟨i + 1, rfl, hlt, rfl, f3.tr f4 fun x hx hh => ?_, R4⟩
    have : x = ad.block := by obtain ⟨a', h1, h2⟩ := hh; cases h1; exact h2.symm
    omega
  have hin : i = n := by omega
  subst hin
  rw [Nat.sub_self, List.replicate_zero, List.append_nil] at R3
  unfold law30_SmtpPending_b2
  have hcv : ∀ {K : Value → Heap → Prop}, K (.string (bs (List.replicate i 10))) h3 → convV Tryd.prog T_sl_uint8 T_string (.slice (some ad) i i) h3 K := fun {K} hK => by
    have := conv8 R3 hK
    rw [List.length_replicate] at this; exact this
  refine hcv ⟨_, rfl, ?_⟩
  have M0 : Many h h3 [] [] := Many.start.fr0 f3
  refine M0.new fun p h4 M1 => ⟨_, rfl, ?_⟩
  have M1 : Many h h4 [(p, st0)] [] := M1
  refine M1.feed 0 (by simp) true tD (by show wt st0 + _ ≤ _; rw [wt0]; decide) 1 (by omega) fun q1 cc1 h5 M2 => ⟨_, _, _, rfl, ?_⟩
  have M2 : Many h h5 [(p, (feedP st0 true tD).1)] [⟨1, q1, cc1, (feedP st0 true tD).2⟩] := M2
  have g1 : (feedP ([(p, st0)][0] : SesA × PS).2 true tD).2.length = 1 := by show (feedP st0 true tD).2.length = 1; rw [pend1]; rfl
  rw [g1]
  rw [pend1] at M2
  have M2 : Many h h5 [(p, stW 0 false)] [⟨1, q1, cc1, [evD]⟩] := M2
  refine slT _ a rfl (by rw [List.length_replicate]; omega) ?_
  rw [List.take_replicate, Nat.min_eq_left (by omega)]
  have p1 := pend2 0 a false
  rw [Nat.zero_add] at p1
  refine M2.feed 0 (by simp) true (List.replicate a 10) (by show wt (stW 0 false) + _ ≤ _; rw [stW_wt, List.length_replicate]; omega) 2 (by omega) fun q2 cc2 h6 M3 => ⟨_, _, _, rfl, ?_⟩
  have M3 : Many h h6 [(p, (feedP (stW 0 false) true (List.replicate a 10)).1)] [⟨2, q2, cc2, (feedP (stW 0 false) true (List.replicate a 10)).2⟩, ⟨1, q1, cc1, [evD]⟩] := M3
  show sliceStr _ _ _ fun t53 => CallT _ _ _ _ fun v h8 => ∃ t54a : Option Addr, ∃ t54n : Nat, ∃ t54c : Nat, v = .slice t54a t54n t54c ∧ _
  refine slF _ a rfl (by rw [List.length_replicate]; omega) ?_
  rw [List.drop_replicate]
  have gy : (feedP ([(p, stW 0 false)][0] : SesA × PS).2 true (List.replicate a 10)).2 = if a > 8192 then [err 1] else [] := by
    show (feedP (stW 0 false) true (List.replicate a 10)).2 = _
    rw [p1]
    by_cases h : a > 8192
    · rw [if_pos ⟨h, rfl⟩, if_pos h]
    · rw [if_neg fun hh => h hh.1, if_neg h]
  have gs : (feedP (stW 0 false) true (List.replicate a 10)).1 = stW a (decide (a > 8192)) := by
    rw [p1]
    by_cases h : a > 8192
    · rw [if_pos ⟨h, rfl⟩, decide_eq_true h]
    · rw [if_neg fun hh => h hh.1, decide_eq_false h]
  have gy' : (feedP (stW 0 false) true (List.replicate a 10)).2 = if a > 8192 then [err 1] else [] := gy
  rw [gs, gy'] at M3
  rw [gy]
  have p2 := pend2 a (i - a) (decide (a > 8192))
  rw [show a + (i - a) = i by omega] at p2
  refine M3.feed 0 (by simp) true (List.replicate (i - a) 10) (by show wt (stW a _) + _ ≤ _; rw [stW_wt, List.length_replicate]; omega) 3 (by omega) fun q3 cc3 h7 M4 => ⟨_, _, _, rfl, ?_⟩
  have gz : (feedP ([(p, stW a (decide (a > 8192)))][0] : SesA × PS).2 true (List.replicate (i - a) 10)).2 = if i > 8192 ∧ ¬ a > 8192 then [err 1] else [] := by
    show (feedP (stW a (decide (a > 8192))) true (List.replicate (i - a) 10)).2 = _
    rw [p2]
    by_cases h : i > 8192 ∧ ¬ a > 8192
    · rw [if_pos ⟨h.1, decide_eq_false h.2⟩, if_pos h]
    · rw [if_neg fun hh => h ⟨hh.1, of_decide_eq_false hh.2⟩, if_neg h]
  rw [gz] at M4 ⊢
  have F7 := M4.fr
  have Dy := M4.rd (r := ⟨2, q2, cc2, if a > 8192 then [err 1] else []⟩) (by simp)
  have Dz := M4.rd (r := ⟨3, q3, cc3, if i > 8192 ∧ ¬ a > 8192 then [err 1] else []⟩) (by simp)
  dsimp only at Dy Dz
  rw [if_neg (by decide)]
  by_cases hA : a > 8192
  · have ey : (if a > 8192 then [err 1] else [] : List Ev) = [err 1] := if_pos hA
    have ez : (if i > 8192 ∧ ¬ a > 8192 then [err 1] else [] : List Ev) = [] := if_neg fun hh => hh.2 hA
    rw [ey] at Dy ⊢
    rw [ez] at Dz ⊢
    refine ifD (fun e => absurd e (by decide)) fun _ => ?_
    rw [if_pos (by decide)]
    refine Dy.get 0 rfl (by decide) fun ad ci => ?_
    have ci := evC ci
    refine ldI_mk (ci.at0 rfl) ?_
    rw [if_pos (by decide)]
    refine Dy.get 0 rfl (by decide) fun ad ci => ?_
    have ci := evC ci
    refine ldI_mk (ci.at (j := 1) rfl) ?_
    rw [if_pos (by decide), decide_eq_true (show ((i : Nat) : Int) > 8192 by omega), decide_eq_true (show ((a : Nat) : Int) > 8192 by omega), if_pos (by decide)]
    exact hk h7 F7
  · have ey : (if a > 8192 then [err 1] else [] : List Ev) = [] := if_neg hA
    rw [ey] at Dy ⊢
    by_cases hB : i > 8192
    · have ez : (if i > 8192 ∧ ¬ a > 8192 then [err 1] else [] : List Ev) = [err 1] := if_pos ⟨hB, hA⟩
      rw [ez] at Dz ⊢
      refine ifD (fun e => absurd e (by decide)) fun _ => ?_
      rw [if_neg (by decide), if_pos (by decide)]
      refine Dz.get 0 rfl (by decide) fun ad ci => ?_
      have ci := evC ci
      refine ldI_mk (ci.at0 rfl) ?_
      rw [if_pos (by decide)]
      refine Dz.get 0 rfl (by decide) fun ad ci => ?_
      have ci := evC ci
      refine ldI_mk (ci.at (j := 1) rfl) ?_
      rw [decide_eq_true (show ((i : Nat) : Int) > 8192 by omega), decide_eq_false (show ¬ ((a : Nat) : Int) > 8192 by omega), if_pos (by decide)]
      exact hk h7 F7
    · have ez : (if i > 8192 ∧ ¬ a > 8192 then [err 1] else [] : List Ev) = [] := if_neg fun hh => hB hh.1
      rw [ez] at Dz ⊢
      refine ifD (fun e => absurd e (by decide)) fun _ => ?_
      rw [if_neg (by decide), if_neg (by decide), decide_eq_false (show ¬ ((i : Nat) : Int) > 8192 by omega), decide_eq_false (show ¬ ((a : Nat) : Int) > 8192 by omega), if_pos (by decide)]
      exact hk h7 F7
end Go.Proofs.YtdpimhlppflidaaDoor
