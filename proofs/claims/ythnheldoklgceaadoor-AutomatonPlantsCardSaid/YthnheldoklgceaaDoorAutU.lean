/-
  Scan, Begin, At, All of the program.
-/
import Derived.Test.YthnheldoklgceaaDoorAutT
namespace Go.Proofs.YthnheldoklgceaaDoor
set_option linter.unusedSimpArgs false
set_option linter.unusedVariables false
set_option maxRecDepth 20000
open Go
open Go.IntKind (wrap)
theorem occ_take (p : Pt) (s : Nm) (n : Nat) : occB p (s.take n) n = occB p s n := by
  unfold occB
  by_cases h : p.t.length ≤ n
  · have : endL (s.take n) p.t.length n = endL s p.t.length n := by
      unfold endL
      rw [List.drop_take, List.take_take]
      congr 1; omega
    rw [this]
  · simp [h]
theorem flat_if {α β : Type} (f : α → Bool) (g : α → β) : ∀ l : List α, (l.flatMap fun x => if f x = true then [g x] else []) = (l.filter f).map g
  | [] => rfl
  | x :: l => by
    rw [List.flatMap_cons, flat_if f g l, List.filter_cons]
    by_cases h : f x = true
    · rw [if_pos h, if_pos h]; rfl
    · rw [if_neg h, if_neg h]; rfl
theorem hA_found (L : List Pt) (s : Nm) (n : Nat) (hn : n ≤ s.length) : hA L s n L.length = (foundL L (s.take n)).map fun j => (j, n) := by
  unfold hA foundL
  rw [flat_if]
  have e : (s.take n).length = n := by rw [List.length_take]; omega
  rw [e]
  congr 1
  refine List.filter_congr fun j _ => (occ_take _ s n).symm
/-- A cursor that has read a text. -/
def CurT (N : Nat) (ws : List Nm) (h : Heap) (c a : Addr) (text : Nm) (p : Option Addr) : Prop :=
  ∃ now cap, CurF h c a now text.length (text.drop (text.length - 64)) p cap ∧ ws[now]? = some (ls ws (lowL text)) ∧ N ≤ c.block ∧ ∀ x, InA p x → N ≤ x
section
variable {N : Nat} {h : Heap} {c a : Addr} {sg : List St} {ws : List Nm} {L : List Pt} {text : Nm} {p : Option Addr}
theorem CurT.fr {S : Nat → Prop} {h' : Heap} (C : CurT N ws h c a text p) (f : Fr S h h') (h1 : ¬ S c.block) (h2 : ∀ x, InA p x → ¬ S x) : CurT N ws h' c a text p := by
  obtain ⟨now, cap, C, r⟩ := C
  exact ⟨now, cap, C.fr f h1 h2, r⟩
theorem CurT.fr0 {h' : Heap} (f : Fr (fun _ => False) h h') (C : CurT N ws h c a text p) : CurT N ws h' c a text p := C.fr f id fun _ _ => id
theorem CurT.lt (C : CurT N ws h c a text p) : c.block < h.size := by
  obtain ⟨_, _, C, _⟩ := C; exact C.own.lt
theorem CurT.lt' (C : CurT N ws h c a text p) {x : Nat} (hx : InA p x) : x < h.size := by
  obtain ⟨_, _, C, _⟩ := C; exact C.row.lt hx
theorem CurT.nc (C : CurT N ws h c a text p) : ¬ InA p c.block := by
  obtain ⟨_, _, C, _⟩ := C; exact C.nc
theorem CurT.ge (C : CurT N ws h c a text p) {x : Nat} (hx : x = c.block ∨ InA p x) : N ≤ x := by
  obtain ⟨_, _, _, _, h1, h2⟩ := C
  rcases hx with h | h
  · omega
  · exact h2 x h
theorem Begin_c [Gh] (A : Auto N h a sg ws L) {Q : Value → Heap → Prop} (hk : ∀ c h', Fr (fun _ => False) h h' → h.size ≤ c.block → CurT N ws h' c a [] none → Q (.pointer (some c)) h') : CallT Tryd.prog fn_automaton_Automaton_Begin #[.pointer (some a)] h Q := by
  apply automaton_Automaton_Begin_s
  unfold automaton_Automaton_Begin_v
  refine ifNS (al_mk (vs := [.pointer (some a), .int .u16 0, .int .i64 0, .slice none 0 0]) fun c h1 f1 e1 o1 => ?_)
  have := A.s.1
  exact hk c h1 f1 (by omega) ⟨0, 0, ⟨o1, Row.nil, notInA⟩, A.d.z, by omega, fun x hx => (notInA hx).elim⟩
theorem stepT [Gh] (A : Auto N h a sg ws L) (C : CurT N ws h c a text p) (b : UInt8) (hlen : text.length ≤ 2 ^ 30) {Q : Value → Heap → Prop}
    (hk : ∀ h' p' r rc, Fr (fun x => x = c.block ∨ InA p x) h h' → CurT N ws h' c a (text ++ [b]) p' → (∀ x, InA p' x → InA p x ∨ h.size ≤ x) → Row 1 inV h' r rc (foundL L (text ++ [b])) → (∀ x, InA r x → h.size ≤ x) → (∀ x, InA r x → ¬ InA p' x) → Q (.slice r (foundL L (text ++ [b])).length rc) h') :
    CallT Tryd.prog fn_automaton_Cursor_step #[.pointer (some c), .int .u8 (byteI b)] h Q := by
  obtain ⟨now, cap, C, hn, h1, h2⟩ := C
  refine step_c A text C h1 h2 b hn hlen fun h' now' p' cap' r rc f C' hn' hp' R hr hrp => ?_
  refine hk h' p' r rc f ⟨now', cap', ?_, hn', h1, fun x hx => ?_⟩ hp' R hr hrp
  · rw [List.length_append, List.length_singleton] at C' ⊢; exact C'
  · rcases hp' x hx with h | h
    · exact h2 x h
    · have := A.s.1; omega
theorem Scan_c [Gh] (A : Auto N h a sg ws L) (C : CurT N ws h c a text p) (s : Nm) (hlen : text.length + s.length ≤ 2 ^ 16) {Q : Value → Heap → Prop}
    (hk : ∀ h' p' r rc, Fr (fun x => x = c.block ∨ InA p x) h h' → CurT N ws h' c a (text ++ s) p' → (∀ x, InA p' x → InA p x ∨ h.size ≤ x) → Row 2 hitV h' r rc (hAll L (text ++ s) text.length s.length) → (∀ x, InA r x → h.size ≤ x) → (∀ x, InA r x → ¬ InA p' x) → Q (.slice r (hAll L (text ++ s) text.length s.length).length rc) h') :
    CallT Tryd.prog fn_automaton_Cursor_Scan #[.pointer (some c), .string (bs s)] h Q := by
  apply automaton_Cursor_Scan_s
  unfold automaton_Cursor_Scan_v
  rw [bs_size]
  have lt := C.lt
  have hm := A.m
  have hcap : ∀ k, k ≤ s.length → (hAll L (text ++ s) text.length k).length ≤ 2 ^ 25 := fun k hk => by
    have h1 := hAll_len L (text ++ s) text.length k
    have h2 : k * L.length ≤ 2 ^ 16 * 512 := Nat.mul_le_mul (by omega) hm
    omega
  refine ifNS ?_
  refine LoopV.go (fun n st h' => ∃ (i : Nat) (p' : Option Addr), st.2.2.2 = (i : Int) ∧ st.2.1 = (hAll L (text ++ s) text.length i).length ∧ i ≤ s.length ∧ n = s.length - i ∧ Fr (fun x => x = c.block ∨ InA p x) h h' ∧ CurT N ws h' c a (text ++ s.take i) p' ∧ (∀ x, InA p' x → InA p x ∨ h.size ≤ x) ∧ Row 2 hitV h' st.1 st.2.2.1 (hAll L (text ++ s) text.length i) ∧ (∀ x, InA st.1 x → h.size ≤ x) ∧ (∀ x, InA st.1 x → ¬ InA p' x)) s.length
    ⟨0, p, rfl, rfl, by omega, rfl, Fr.refl _ _, by rw [List.take_zero, List.append_nil]; exact C, fun x hx => .inl hx, Row.nil, fun x hx => (notInA hx).elim, fun x hx => (notInA hx).elim⟩ ?_
  rintro n ⟨oa, on, oc, t⟩ h1 ⟨i, p1, e1, e2, hi, rfl, f1, C1, hp1, R1, ho1, hd1⟩ Kn hK
  dsimp only at e1 e2 R1 ho1 hd1
  subst e1 e2
  dsimp only
  unfold automaton_Cursor_Scan_l1
  have z1 := f1.size
  have hge : ∀ x, x < h.size → (x = c.block ∨ InA p x) → N ≤ x := fun x _ hx => C.ge hx
  have A1 := A.fr f1 hge
  refine ifD (fun e => ?_) fun e => ?_
  · have hil : i < s.length := by omega
    refine ixS s i rfl hil ?_
    have hck := hcap i (by omega)
    have htk : text ++ s.take i ++ [s[i]] = text ++ s.take (i + 1) := by rw [List.append_assoc, List.take_append_getElem]
    refine stepT A1 C1 s[i] (by rw [List.length_append, List.length_take]; omega) fun h2 p2 r rc f2 C2 hp2 R2 hr2 hrp2 => ⟨_, _, _, rfl, ?_⟩
    rw [htk] at C2 R2 ⊢
    have z2 := f2.size
    have hn2 : (text ++ s.take (i + 1)).length = text.length + 1 + i := by rw [List.length_append, List.length_take]; omega
    have hfd : hA L (text ++ s) (text.length + 1 + i) L.length = (foundL L (text ++ s.take (i + 1))).map fun j => (j, text.length + 1 + i) := by
      rw [hA_found L (text ++ s) _ (by rw [List.length_append]; omega)]
      congr 2
      rw [List.take_append, List.take_of_length_le (by omega)]
      congr 2; omega
    have hfl : (foundL L (text ++ s.take (i + 1))).length ≤ 512 := by
      unfold foundL
      exact Nat.le_trans (List.length_filter_le ..) (by rw [List.length_range]; exact hm)
    generalize hFd : foundL L (text ++ s.take (i + 1)) = F at *
    have R12 : Row 2 hitV h2 oa oc (hAll L (text ++ s) text.length i) := R1.fr f2 fun x hx hh => by
      rcases hh with hh | hh
      · have := ho1 x hx; omega
      · exact hd1 x hx hh
    have F2 : Fr (fun x => x = c.block ∨ InA p x) h h2 := f1.tr f2 fun x hx hh => by
      rcases hh with hh | hh
      · exact .inl hh
      · rcases hp1 x hh with h | h
        · exact .inr h
        · omega
    have hp2' : ∀ x, InA p2 x → InA p x ∨ h.size ≤ x := fun x hx => by
      rcases hp2 x hx with h | h
      · exact hp1 x h
      · exact .inr (by omega)
    have d2 : ∀ x, InA oa x → ¬ InA p2 x := fun x hx hh => by
      rcases hp2 x hh with h | h
      · exact hd1 x hx h
      · have := R1.lt hx; omega
    have dr2 : ∀ x, InA r x → ¬ InA oa x := fun x hx hh => by have := hr2 x hx; have := R1.lt hh; omega
    refine LoopV.go (fun n st h' => ∃ (k : Nat), st.2.2.2 = (k : Int) ∧ st.2.1 = (hAll L (text ++ s) text.length i ++ (F.take k).map fun j => (j, text.length + 1 + i)).length ∧ k ≤ F.length ∧ n = F.length - k ∧ Fr (fun x => x = c.block ∨ InA p x) h h' ∧ CurT N ws h' c a (text ++ s.take (i + 1)) p2 ∧ Row 1 inV h' r rc F ∧ Row 2 hitV h' st.1 st.2.2.1 (hAll L (text ++ s) text.length i ++ (F.take k).map fun j => (j, text.length + 1 + i)) ∧ (∀ x, InA st.1 x → h.size ≤ x) ∧ (∀ x, InA st.1 x → ¬ InA p2 x) ∧ (∀ x, InA r x → ¬ InA st.1 x)) F.length
      ⟨0, rfl, by simp, by omega, rfl, F2, C2, R2, by simpa using R12, ho1, d2, dr2⟩ ?_
    rintro n ⟨oa, on, oc, t⟩ h3 ⟨k, e1, e2, hk', rfl, f3, C3, Rr3, R3, ho3, hd3, hr3⟩ Kn2 hK2
    dsimp only at e1 e2 R3 ho3 hd3 hr3
    subst e1 e2
    dsimp only
    unfold automaton_Cursor_Scan_l2
    have z3 := f3.size
    refine ifD (fun e => ?_) fun e => ?_
    · have hkl : k < F.length := by omega
      refine Rr3.idx inV_len (by decide) k rfl hkl fun ad ci => ?_
      rw [Int.toNat_natCast]
      have c3 := C3
      obtain ⟨now3, cap3, Cf3, _⟩ := c3
      have hat := Cf3.own.cells.at (j := 2) rfl
      rw [hn2] at hat
      refine ldI_mk (ci.at0 rfl) (nn_mk (ldI_mk hat ?_))
      refine al_mk (vs := hitV (F[k], text.length + 1 + i)) fun t33 h4 f4 e4 o4 => ?_
      have z4 := f4.size
      have e5 : (hAll L (text ++ s) text.length i ++ (F.take k).map fun j => (j, text.length + 1 + i)) ++ [(F[k], text.length + 1 + i)] = hAll L (text ++ s) text.length i ++ (F.take (k + 1)).map fun j => (j, text.length + 1 + i) := by
        rw [List.append_assoc, show F.take (k + 1) = F.take k ++ [F[k]] by rw [List.take_append_getElem], List.map_append]; rfl
      refine appHit (R3.fr0 f4) o4 (by rw [List.length_append, List.length_map, List.length_take]; omega) fun p' c' h5 R5 f5 hn5 => ⟨_, _, _, rfl, ?_⟩
      rw [e5] at R5 ⊢
      rw [wr (by omega) (by omega)]
      have lt3 := C3.lt
      refine hK2 (F.length - (k + 1)) _ _ (by omega) ⟨k + 1, rfl, rfl, hkl, rfl, (f3.tr f4 fun _ _ h => h.elim).tr f5 fun x hx hh => by have := ho3 x hh; omega, (C3.fr0 f4).fr f5 (fun hh => by have := ho3 _ hh; omega) (fun x hx hh => hd3 x hh hx), (Rr3.fr0 f4).fr f5 (fun x hx hh => hr3 x hx hh), R5, fun x hx => ?_, fun x hx hh => ?_, fun x hx hh => ?_⟩
      · rcases hn5 x hx with h | h
        · exact ho3 x h
        · omega
      · rcases hn5 x hx with h | h
        · exact hd3 x h hh
        · have := C3.lt' hh; omega
      · rcases hn5 x hh with h | h
        · exact hr3 x hx h
        · have := Rr3.lt hx; omega
    · have : k = F.length := by omega
      subst this
      rw [List.take_length, ← hfd, ← hAll_succ] at R3 ⊢
      rw [wr (by omega) (by omega)]
      exact hK (s.length - (i + 1)) _ _ (by omega) ⟨i + 1, p2, rfl, rfl, hil, rfl, f3, C3, hp2', R3, ho3, hd3⟩
  · have : i = s.length := by omega
    subst this
    rw [List.take_length] at C1
    exact hk h1 p1 oa oc f1 C1 hp1 R1 ho1 hd1
theorem All_c [Gh] (A : Auto N h a sg ws L) (s : Nm) (hlen : s.length ≤ 2 ^ 16) {Q : Value → Heap → Prop}
    (hk : ∀ h' r rc, Fr (fun _ => False) h h' → Row 2 hitV h' r rc (hAll L s 0 s.length) → (∀ x, InA r x → h.size ≤ x) → Q (.slice r (hAll L s 0 s.length).length rc) h') :
    CallT Tryd.prog fn_automaton_Automaton_All #[.pointer (some a), .string (bs s)] h Q := by
  apply automaton_Automaton_All_s
  unfold automaton_Automaton_All_v
  refine Begin_c A fun c h1 f1 hc C1 => ⟨_, rfl, ?_⟩
  have z1 := f1.size
  refine Scan_c (A.fr0 f1) C1 s (by rw [List.length_nil]; omega) fun h2 p' r rc f2 C2 hp' R2 hr hrp => ⟨_, _, _, rfl, ?_⟩
  rw [List.nil_append, List.length_nil] at R2 ⊢
  exact hk h2 r rc (f1.tr f2 fun x hx hh => by
    rcases hh with h | h
    · omega
    · exact (notInA h).elim) R2 fun x hx => by have := hr x hx; omega
theorem States_a [Gh] (A : Auto N h a sg ws L) {Q : Value → Heap → Prop} (hk : Q (.int .i64 ws.length) h) : CallT Tryd.prog fn_automaton_Automaton_States #[.pointer (some a)] h Q := by
  apply automaton_Automaton_States_s
  unfold automaton_Automaton_States_v
  obtain ⟨q, cq, pq, pc, ca, _⟩ := A.s.now.blk
  rw [← A.d.len] at hk
  exact ifNS (nn_mk (ldL_mk (ca.at0 rfl) hk))
end
end Go.Proofs.YthnheldoklgceaaDoor
