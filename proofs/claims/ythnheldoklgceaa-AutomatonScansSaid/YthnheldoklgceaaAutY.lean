/-
  The laws Scans, Pieces.
-/
import Derived.Test.YthnheldoklgceaaAutW
namespace Go.Proofs.Ythnheldoklgceaa
set_option linter.unusedSimpArgs false
set_option linter.unusedVariables false
set_option maxRecDepth 20000
open Go
open Go.IntKind (wrap)
theorem hA_take (L : List Pt) (s : Nm) (k n i : Nat) (hn : n ≤ k) : hA L (s.take k) n i = hA L s n i := by
  unfold hA
  congr 1
  funext j
  have e : occB (L.getD j ⟨[], false⟩) (s.take k) n = occB (L.getD j ⟨[], false⟩) s n := by
    rw [← occ_take _ (s.take k) n, ← occ_take _ s n, List.take_take, Nat.min_eq_left hn]
  rw [e]
theorem hAll_take (L : List Pt) (s : Nm) (k fm : Nat) : ∀ m, fm + m ≤ k → hAll L (s.take k) fm m = hAll L s fm m
  | 0, _ => rfl
  | m + 1, h => by rw [hAll_succ, hAll_succ, hAll_take L s k fm m (by omega), hA_take L s k _ _ (by omega)]
theorem hAll_add (L : List Pt) (s : Nm) (fm a : Nat) : ∀ b, hAll L s fm (a + b) = hAll L s fm a ++ hAll L s (fm + a) b
  | 0 => by simp [hAll]
  | b + 1 => by
    rw [← Nat.add_assoc, hAll_succ, hAll_succ, hAll_add L s fm a b, List.append_assoc]
    congr 3; omega
theorem Auto.up {N M : Nat} {h : Heap} {a : Addr} {sg : List St} {ws : List Nm} {L : List Pt} (A : Auto N h a sg ws L) (hM : N ≤ M) (h2 : M ≤ h.size) : Auto M h a sg ws L :=
  { A with s := ⟨h2, fun h' f => A.s.2 h' (f.mono fun x hx => Nat.le_trans hM hx)⟩ }
/-- The same text on both sides. -/
theorem pair_c [Gh] {M : Nat} {h : Heap} {c a x b : Addr} {sg : List St} {ws : List Nm} {L : List Pt} {T : Nm} {p : Option Addr} (A : Auto M h a sg ws L) (B : RefS M h b L) (C : CurT M ws h c a T p) (X : rCur h x b T) (hx : M ≤ x.block) (hd1 : x.block ≠ c.block) (hd2 : ¬ InA p x.block) (s : Nm) (hlen : T.length + s.length ≤ 10000)
    {K1 : Heap → Prop} (hK1 : ∀ h', Fr (fun y => M ≤ y) h h' → K1 h') {Z Q : Heap → Prop}
    (hk : ∀ h' p', Fr (fun y => y = c.block ∨ InA p y ∨ y = x.block) h h' → CurT M ws h' c a (T ++ s) p' → rCur h' x b (T ++ s) → (∀ y, InA p' y → InA p y ∨ h.size ≤ y) → Q h') :
    CallT Try.prog fn_automaton_Cursor_Scan #[.pointer (some c), .string (bs s)] h fun v h14 => ∃ t74a : Option Addr, ∃ t74n : Nat, ∃ t74c : Nat, v = .slice t74a t74n t74c ∧ K1 h14 ∧
      CallT Try.prog fn_ref45_Cursor_Scan #[.pointer (some x), .string (bs s)] h14 fun v h15 => ∃ t80a : Option Addr, ∃ t80n : Nat, ∃ t80c : Nat, v = .slice t80a t80n t80c ∧
        CallT Try.prog fn_law45_same #[.slice t74a t74n t74c, .slice t80a t80n t80c] h15 fun v h16 => ∃ t81 : Bool, v = .bool t81 ∧ if (!t81) = true then Z h16 else Q h16 := by
  have hge : ∀ y, y < h.size → (y = c.block ∨ InA p y) → M ≤ y := fun y _ hy => C.ge hy
  refine Scan_c A C s (by omega) fun h1 p1 r1 c1 f1 C1 hp1 R1 hr1 hrp1 => ⟨_, _, _, rfl, hK1 h1 (f1.mono' hge), ?_⟩
  have z1 := f1.size
  have hxl := X.lt
  have X1 := X.fr f1 fun hh => hh.elim hd1 hd2
  have B1 := B.fr f1 hge
  have hm := A.m
  refine rScan_c B1 X1 hx hm (fun p hp => (errL_ok A.ok p hp).2) s hlen fun h2 r2 c2 f2 X2 R2 hr2 => ⟨_, _, _, rfl, ?_⟩
  have z2 := f2.size
  have hl := hAll_len L (T ++ s) T.length s.length
  have hl2 : s.length * L.length ≤ 10000 * 512 := Nat.mul_le_mul (by omega) hm
  refine same_c (R1.fr f2 fun y hy hh => by have := hr1 y hy; omega) R2 (by omega) ⟨true, rfl, ?_⟩
  rw [if_neg (by simp)]
  refine hk h2 p1 ((f1.mono fun y hy => hy.elim .inl fun h => .inr (.inl h)).tr f2 fun y _ hh => .inr (.inr hh)) (C1.fr f2 (fun hh => hd1 hh.symm) fun y hy hh => ?_) X2 hp1
  rcases hp1 y hy with h | h
  · exact hd2 (hh ▸ h)
  · omega
theorem AutomatonPieces_c [Gh] (l : Sl S_api_Pattern) (s : Nm) (at' : Int) {h : Heap} (ol : SlOk 2 S_api_Pattern.vals S_api_Pattern.ok h l) (os : sOk h s) (oa : kOk .i64 h at') {Q : Value → Heap → Prop} (hk : ∀ h', Fr (fun _ => False) h h' → Q (.bool true) h') :
    CallT Try.prog fn_law45_AutomatonPieces #[.slice l.p l.xs.length l.cap, .string (bs s), .int .i64 at'] h Q := by
  have o := ptS_ok ol
  have el : l.xs.length = (ptS l).xs.length := (List.length_map ..).symm
  rw [el, show l.p = (ptS l).p from rfl, show l.cap = (ptS l).cap from rfl]
  generalize ptS l = l at *
  apply law45_AutomatonPieces_s
  unfold law45_AutomatonPieces_v
  have aw : ∀ h', Fr (fun _ => False) h h' → CallT Try.prog fn_law45_awake #[] h' fun v h1 => ∃ t17 : Bool, v = .bool t17 ∧ Q (.bool t17) h1 := fun h' f => awake_c fun h2 f2 => ⟨_, rfl, hk h2 (f.trans f2)⟩
  refine ifD (fun _ => aw h (Fr.refl _ _)) fun e => ?_
  refine large_c o.pts (fun b hb => ⟨_, rfl, ifB (fun _ => aw h (Fr.refl _ _)) fun e2 => ?_⟩) o.cap
  obtain ⟨hb1, hb2⟩ := hb e2
  rw [bs_size]
  refine ifD (fun _ => aw h (Fr.refl _ _)) fun e3 => ?_
  refine Build_c l o trueOk (by omega) (fun h1 f1 he => ⟨_, _, rfl, ?_⟩) fun a h1 sg ws f1 A1 he => ⟨_, _, rfl, ?_⟩
  · rw [if_pos (by simpa using he)]; exact aw h1 f1
  rw [he, if_neg (by decide)]
  have z1 := f1.size
  refine Begin_c A1 fun c h2 f2 hc C2 => ⟨_, rfl, ?_⟩
  have z2 := f2.size
  obtain ⟨k, hkk, hkl⟩ : ∃ k : Nat, (if ((s.length : Nat) : Int) < (if (0 : Int) > at' then (0 : Int) else at') then ((s.length : Nat) : Int) else (if (0 : Int) > at' then (0 : Int) else at')) = (k : Int) ∧ k ≤ s.length := by
    by_cases h1 : (0 : Int) > at'
    · rw [if_pos h1, if_neg (by omega)]; exact ⟨0, rfl, Nat.zero_le _⟩
    · rw [if_neg h1]
      by_cases h2 : (s.length : Int) < at'
      · rw [if_pos h2]; exact ⟨s.length, rfl, Nat.le_refl _⟩
      · rw [if_neg h2]; exact ⟨at'.toNat, by omega, by omega⟩
  rw [hkk]
  refine slT s k rfl hkl ?_
  have htl : (s.take k).length = k := by rw [List.length_take]; omega
  refine Scan_c (A1.fr0 f2) C2 (s.take k) (by rw [List.length_nil]; omega) fun h3 p3 r3 c3 f3 C3 hp3 R3 hr3 hrp3 => ⟨_, _, _, rfl, ?_⟩
  have z3 := f3.size
  rw [List.nil_append, htl, List.length_nil, hAll_take _ _ _ _ _ (by omega)] at R3
  rw [List.nil_append] at C3
  rw [List.nil_append, htl, List.length_nil, hAll_take _ _ _ _ _ (by omega)]
  have fA : Fr (fun _ => False) h1 h3 := f2.tr f3 fun x hx hh => by
    rcases hh with h | h
    · omega
    · exact (notInA h).elim
  have A3 := A1.fr0 fA
  refine slF s k rfl hkl ?_
  refine Scan_c A3 C3 (s.drop k) (by rw [htl, List.length_drop]; omega) fun h4 p4 r4 c4 f4 C4 hp4 R4 hr4 hrp4 => ⟨_, _, _, rfl, ?_⟩
  have z4 := f4.size
  rw [List.take_append_drop, htl] at R4
  rw [List.take_append_drop] at C4
  rw [List.take_append_drop, htl]
  have hfr4 : ∀ x, (x = c.block ∨ InA p3 x) → h1.size ≤ x := fun x hh => by
    rcases hh with h | h
    · omega
    · rcases hp3 x h with h | h
      · exact (notInA h).elim
      · omega
  have fA4 : Fr (fun _ => False) h1 h4 := fA.tr f4 fun x hx hh => by have := hfr4 x hh; omega
  have R34 : Row 2 hitV h4 r3 c3 (hAll l.xs s 0 k) := R3.fr f4 fun x hx hh => by
    rcases hh with h | h
    · have := hr3 x hx; have := C2.lt; omega
    · exact hrp3 x hx h
  have hl1 := hAll_len l.xs s 0 k
  have hl2 := hAll_len l.xs s k (s.drop k).length
  have hl3 : k * l.xs.length ≤ 600 * 600 := Nat.mul_le_mul (by omega) hb1
  have hl4 : (s.drop k).length * l.xs.length ≤ 600 * 600 := Nat.mul_le_mul (by rw [List.length_drop]; omega) hb1
  refine R34.appL el_hit Try.underlying39 (by intro k e; cases e) (by kernel_rfl) (by decide +kernel) hitV_len (fun _ => rfl) (R4.src hitV_len (by decide)) (by omega) fun p5 c5 h5 R5 f5 hn5 => ⟨_, _, _, rfl, ?_⟩
  have z5 := f5.size
  have e5 : hAll l.xs s 0 k ++ hAll l.xs s k (s.drop k).length = hAll l.xs s 0 s.length := by
    have := hAll_add l.xs s 0 k (s.drop k).length
    rw [Nat.zero_add, List.length_drop, show k + (s.length - k) = s.length by omega] at this
    rw [List.length_drop]; exact this.symm
  rw [e5] at R5 ⊢
  have fA5 : Fr (fun _ => False) h1 h5 := fA4.tr f5 fun x hx hh => by have := hr3 x hh; omega
  have C5 := C4.fr f5 (fun hh => by have := hr3 _ hh; have := C2.lt; omega) fun x hx hh => by
    rcases hp4 x hx with h | h
    · exact hrp3 x hh h
    · have := R3.lt hh; omega
  refine All_c (A1.fr0 fA5) s (by omega) fun h6 r6 c6 f6 R6 hr6 => ⟨_, _, _, rfl, ?_⟩
  have hl5 := hAll_len l.xs s 0 s.length
  have hl6 : s.length * l.xs.length ≤ 600 * 600 := Nat.mul_le_mul (by omega) hb1
  refine same_c (R5.fr0 f6) R6 (by omega) ⟨_, rfl, ?_⟩
  rw [if_pos rfl]
  refine At_c (C5.fr0 f6) ⟨_, rfl, ?_⟩
  rw [if_pos (by simp)]
  exact aw h6 ((f1.trans fA5).trans f6)
theorem AutomatonScans_c [Gh] (l : Sl S_api_Pattern) (ps : Sl (List UInt8)) {h : Heap} (ol : SlOk 2 S_api_Pattern.vals S_api_Pattern.ok h l) (op : SlOk 1 (fun l : List UInt8 => [Value.string (bs l)]) sOk h ps) {Q : Value → Heap → Prop} (hk : ∀ h', Fr (fun _ => False) h h' → Q (.bool true) h') :
    CallT Try.prog fn_law45_AutomatonScans #[.slice l.p l.xs.length l.cap, .slice ps.p ps.xs.length ps.cap] h Q := by
  have o := ptS_ok ol
  have el : l.xs.length = (ptS l).xs.length := (List.length_map ..).symm
  rw [el, show l.p = (ptS l).p from rfl, show l.cap = (ptS l).cap from rfl]
  generalize ptS l = l at *
  apply law45_AutomatonScans_s
  unfold law45_AutomatonScans_v
  have aw : ∀ h', Fr (fun _ => False) h h' → CallT Try.prog fn_law45_awake #[] h' fun v h1 => ∃ t17 : Bool, v = .bool t17 ∧ Q (.bool t17) h1 := fun h' f => awake_c fun h2 f2 => ⟨_, rfl, hk h2 (f.trans f2)⟩
  refine ifD (fun _ => aw h (Fr.refl _ _)) fun e => ?_
  refine large_c o.pts (fun b hb => ⟨_, rfl, ifB (fun _ => aw h (Fr.refl _ _)) fun e2 => ?_⟩) o.cap
  obtain ⟨hb1, hb2⟩ := hb e2
  refine ifD (fun _ => aw h (Fr.refl _ _)) fun e3 => ?_
  have hpn : ps.xs.length ≤ 20 := by omega
  refine Build_c l o trueOk (by omega) (fun h1 f1 he => ⟨_, _, rfl, ?_⟩) fun a h1 sg ws f1 A1 he => ⟨_, _, rfl, ?_⟩
  · refine rBuild_c l (SlOk.fr0 trueOk f1 o) trueOk (by omega) (fun h2 f2 _ => ⟨_, _, rfl, ?_⟩) fun a h2 f2 A2 he2 => absurd he2 he
    rw [if_pos (by simpa using he), if_pos (by simpa using he)]
    exact aw h2 (f1.trans f2)
  refine rBuild_c l (SlOk.fr0 trueOk f1 o) trueOk (by omega) (fun h2 f2 he2 => absurd he he2) fun b h2 f2 B2 _ => ⟨_, _, rfl, ?_⟩
  rw [he, if_neg (by decide)]
  refine ifNS ?_
  have z1 := f1.size
  have z2 := f2.size
  have A2 := (A1.fr0 f2).up (M := h2.size) z2 (Nat.le_refl _)
  have F2 := f1.trans f2
  have zF2 := F2.size
  generalize hM : h2.size = M at *
  refine Begin_c A2 fun c h3 f3 hc C3 => ⟨_, rfl, ?_⟩
  have z3 := f3.size
  refine Begin_c (A2.fr0 f3) fun d h4 f4 hd D4 => ⟨_, rfl, ?_⟩
  have z4 := f4.size
  refine rBegin_c b fun x h5 f5 hx X5 => ⟨_, rfl, ?_⟩
  have z5 := f5.size
  refine rBegin_c b fun y h6 f6 hy Y6 => ⟨_, rfl, ?_⟩
  have z6 := f6.size
  have f26 : Fr (fun _ => False) h2 h6 := ((f3.trans f4).trans f5).trans f6
  have lc := C3.lt
  have ld := D4.lt
  have lx := X5.lt
  have ly := Y6.lt
  -- whose blocks are whose
  refine LoopV.go (fun n st h' => ∃ (i : Nat) (T1 T2 : Nm) (p q : Option Addr), st = (i : Int) ∧ i ≤ ps.xs.length ∧ n = ps.xs.length - i ∧ Fr (fun _ => False) h h' ∧ Auto M h' a sg ws l.xs ∧ RefS M h' b l.xs ∧ CurT M ws h' c a T1 p ∧ CurT M ws h' d a T2 q ∧ rCur h' x b T1 ∧ rCur h' y b T2 ∧ T1.length ≤ 100 * i ∧ T2.length ≤ 100 * i ∧
      (∃ o : Nat → Nat, o c.block = 1 ∧ o d.block = 2 ∧ o x.block = 3 ∧ o y.block = 4 ∧ (∀ z, InA p z → o z = 1) ∧ (∀ z, InA q z → o z = 2))) ps.xs.length
    ⟨0, [], [], none, none, rfl, Nat.zero_le _, rfl, F2.trans f26, A2.fr0 f26, B2.fr0 f26, ((C3.fr0 f4).fr0 f5).fr0 f6, (D4.fr0 f5).fr0 f6, X5.fr0 f6, Y6, Nat.le_refl _, Nat.le_refl _, ⟨fun z => if z = c.block then 1 else if z = d.block then 2 else if z = x.block then 3 else 4, by simp, ?_, ?_, ?_, fun z hz => (notInA hz).elim, fun z hz => (notInA hz).elim⟩⟩ ?_
  · dsimp only; rw [if_neg (by omega), if_pos rfl]
  · dsimp only; rw [if_neg (by omega), if_neg (by omega), if_pos rfl]
  · dsimp only; rw [if_neg (by omega), if_neg (by omega), if_neg (by omega)]
  rintro n - h7 ⟨i, T1, T2, p, q, rfl, hi, rfl, f7, A7, B7, C7, D7, X7, Y7, l1, l2, w, w1, w2, w3, w4, w5, w6⟩ Kn hK
  unfold law45_AutomatonScans_l1
  have z7 := f7.size
  have hPS : ∀ h', Fr (fun _ => False) h h' → SlOk 1 (fun l : List UInt8 => [Value.string (bs l)]) sOk h' ps := fun h' f => SlOk.fr0 (fun _ _ _ _ o => o) f op
  refine ifD (fun e => ?_) fun e => ?_
  · have hil : i < ps.xs.length := by omega
    obtain ⟨ad, had, ci, _⟩ := (hPS h7 f7).at_ i hil
    rw [had]
    refine idxA_mk i rfl hil (nn_mk ?_)
    rw [Int.toNat_natCast]
    refine ldS_mk (ci.at0 rfl) ?_
    rw [bs_size]
    refine ifD (fun _ => aw h7 f7) fun e4 => ?_
    refine idxA_mk i rfl hil (nn_mk (ldS_mk (ci.at0 rfl) (idxA_mk i rfl hil (nn_mk (ldS_mk (ci.at0 rfl) ?_)))))
    have hMh : ∀ z, z < h.size → M ≤ z → False := fun z h1 h2 => by omega
    have gx : M ≤ x.block := by omega
    have gy : M ≤ y.block := by omega
    refine pair_c A7 B7 C7 X7 gx (fun hh => by rw [hh, w1] at w3; omega) (fun hh => by have := w5 _ hh; omega) ps.xs[i] (by omega) (fun h' f' => ?_) fun h8 p8 f8 C8 X8 hp8 => ?_
    · have f9 : Fr (fun _ => False) h h' := f7.tr f' fun z hz hh => hMh z hz hh
      obtain ⟨ad', had', ci', _⟩ := (hPS h' f9).at_ i hil
      rw [had] at had'; cases had'
      exact ldS_mk (ci'.at0 rfl) rfl
    have z8 := f8.size
    have ge8 : ∀ z, (z = c.block ∨ InA p z ∨ z = x.block) → M ≤ z := fun z hz => by
      rcases hz with h | h | h
      · exact C7.ge (.inl h)
      · exact C7.ge (.inr h)
      · omega
    have f78 : Fr (fun _ => False) h h8 := f7.tr f8 fun z hz hh => hMh z hz (ge8 z hh)
    have A8 := A7.fr f8 fun z _ hh => ge8 z hh
    have B8 := B7.fr f8 fun z _ hh => ge8 z hh
    have D8 := D7.fr f8 (fun hh => by
      rcases hh with h | h | h
      · rw [h, w1] at w2; omega
      · have := w5 _ h; omega
      · rw [h, w3] at w2; omega) fun z hz hh => by
      have := w6 z hz
      rcases hh with h | h | h
      · rw [h] at this; omega
      · have := w5 _ h; omega
      · rw [h] at this; omega
    have Y8 := Y7.fr f8 fun hh => by
      rcases hh with h | h | h
      · rw [h, w1] at w4; omega
      · have := w5 _ h; omega
      · rw [h, w3] at w4; omega
    have lc7 := C7.lt
    have ld7 := D7.lt
    have lx7 := X7.lt
    have ly7 := Y7.lt
    have W8 : ∃ o : Nat → Nat, o c.block = 1 ∧ o d.block = 2 ∧ o x.block = 3 ∧ o y.block = 4 ∧ (∀ z, InA p8 z → o z = 1) ∧ (∀ z, InA q z → o z = 2) := by
      refine ⟨upT w h7.size 1, by rw [upT_lt lc7]; exact w1, by rw [upT_lt ld7]; exact w2, by rw [upT_lt lx7]; exact w3, by rw [upT_lt ly7]; exact w4, fun z hz => ?_, fun z hz => by rw [upT_lt (D7.lt' hz)]; exact w6 z hz⟩
      rcases hp8 z hz with h | h
      · rw [upT_lt (C7.lt' h)]; exact w5 z h
      · exact upT_ge h
    have l18 : (T1 ++ ps.xs[i]).length ≤ 100 * (i + 1) := by rw [List.length_append]; omega
    refine At_c C8 ⟨_, rfl, rAt_c X8 ⟨_, rfl, ?_⟩⟩
    rw [if_neg (by simp)]
    have hj : ps.xs.length - 1 - i < ps.xs.length := by omega
    have ej : wrap .i64 (wrap .i64 (((ps.xs.length : Nat) : Int) - 1) - (i : Int)) = ((ps.xs.length - 1 - i : Nat) : Int) := by
      rw [wr (x := ((ps.xs.length : Nat) : Int) - 1) (by omega) (by omega), wr (by omega) (by omega)]; omega
    rw [ej]
    generalize ps.xs.length - 1 - i = j at *
    obtain ⟨ad2, had2, cj, _⟩ := (hPS h8 f78).at_ j hj
    rw [had] at had2; cases had2
    refine idxA_mk j rfl hj (nn_mk ?_)
    rw [Int.toNat_natCast]
    refine ldS_mk (cj.at0 rfl) ?_
    rw [bs_size]
    refine ifD (fun e5 => ?_) fun e5 => ?_
    · refine idxA_mk j rfl hj (nn_mk (ldS_mk (cj.at0 rfl) (idxA_mk j rfl hj (nn_mk (ldS_mk (cj.at0 rfl) ?_)))))
      obtain ⟨v, v1, v2, v3, v4, v5, v6⟩ := W8
      refine pair_c A8 B8 D8 Y8 gy (fun hh => by rw [hh, v2] at v4; omega) (fun hh => by have := v6 _ hh; omega) ps.xs[j] (by omega) (fun h' f' => ?_) fun h9 q9 f9 D9 Y9 hq9 => ?_
      · have f9 : Fr (fun _ => False) h h' := f78.tr f' fun z hz hh => hMh z hz hh
        obtain ⟨ad', had', ci', _⟩ := (hPS h' f9).at_ j hj
        rw [had] at had'; cases had'
        exact ldS_mk (ci'.at0 rfl) rfl
      have z9 := f9.size
      have ge9 : ∀ z, (z = d.block ∨ InA q z ∨ z = y.block) → M ≤ z := fun z hz => by
        rcases hz with h | h | h
        · exact D8.ge (.inl h)
        · exact D8.ge (.inr h)
        · omega
      have f79 : Fr (fun _ => False) h h9 := f78.tr f9 fun z hz hh => hMh z hz (ge9 z hh)
      have C9 := C8.fr f9 (fun hh => by
        rcases hh with h | h | h
        · rw [h, v2] at v1; omega
        · have := v6 _ h; omega
        · rw [h, v4] at v1; omega) fun z hz hh => by
        have := v5 z hz
        rcases hh with h | h | h
        · rw [h] at this; omega
        · have := v6 _ h; omega
        · rw [h] at this; omega
      have X9 := X8.fr f9 fun hh => by
        rcases hh with h | h | h
        · rw [h, v2] at v3; omega
        · have := v6 _ h; omega
        · rw [h, v4] at v3; omega
      have lc8 := C8.lt
      have ld8 := D8.lt
      have lx8 := X8.lt
      have ly8 := Y8.lt
      rw [wr (by omega) (by omega)]
      refine hK (ps.xs.length - (i + 1)) _ _ (by omega) ⟨i + 1, _, _, p8, q9, rfl, hil, rfl, f79, A8.fr f9 fun z _ hh => ge9 z hh, B8.fr f9 fun z _ hh => ge9 z hh, C9, D9, X9, Y9, l18, by rw [List.length_append]; omega,
        upT v h8.size 2, by rw [upT_lt lc8]; exact v1, by rw [upT_lt ld8]; exact v2, by rw [upT_lt lx8]; exact v3, by rw [upT_lt ly8]; exact v4, fun z hz => by rw [upT_lt (C8.lt' hz)]; exact v5 z hz, fun z hz => ?_⟩
      rcases hq9 z hz with h | h
      · rw [upT_lt (D8.lt' h)]; exact v6 z h
      · exact upT_ge h
    · rw [wr (by omega) (by omega)]
      exact hK (ps.xs.length - (i + 1)) _ _ (by omega) ⟨i + 1, _, _, p8, q, rfl, hil, rfl, f78, A8, B8, C8, D8, X8, Y8, l18, by omega, W8⟩
  · unfold law45_AutomatonScans_b2
    exact aw h7 f7
end Go.Proofs.Ythnheldoklgceaa
