/-
  The reference's check of names and prefixes: some answer, whatever is given.
-/
import Derived.Test.YtjelnknmjhceiaaCtA
namespace Go.Proofs.Ytjelnknmjhceiaa.Au
set_option linter.unusedSimpArgs false
set_option linter.unusedVariables false
set_option maxRecDepth 20000
open Go
open Go.IntKind (wrap)
section
variable {h : Heap} {Q : Value → Heap → Prop}
theorem letter_c [Gh] (c : Int) (hk : ∀ b : Bool, Q (.bool b) h) : CallT Try.prog fn_ref04_Letter #[.int .u8 c] h Q := by
  apply ref04_Letter_s
  unfold ref04_Letter_v
  exact ifD (fun _ => ifD (fun _ => hk _) fun _ => ifD (fun _ => hk _) fun _ => hk _) fun _ => ifD (fun _ => hk _) fun _ => hk _
theorem digit_c [Gh] (c : Int) (hk : ∀ b : Bool, Q (.bool b) h) : CallT Try.prog fn_ref04_Digit #[.int .u8 c] h Q := by
  apply ref04_Digit_s
  unfold ref04_Digit_v
  exact ifD (fun _ => hk _) fun _ => hk _
theorem inName_c [Gh] (c : Int) (hk : ∀ b : Bool, Q (.bool b) h) : CallT Try.prog fn_ref04_inName #[.int .u8 c] h Q := by
  apply ref04_inName_s
  unfold ref04_inName_v
  exact letter_c c fun b => ⟨b, rfl, ifB (fun _ => hk _) fun _ => digit_c c fun b => ⟨b, rfl, ifB (fun _ => hk _) fun _ => hk _⟩⟩
theorem IsName_c [Gh] (s : Nm) (hk : ∀ b : Bool, (b = true → s.length ≤ 32) → Q (.bool b) h) : CallT Try.prog fn_ref04_IsName #[.string (bs s)] h Q := by
  apply ref04_IsName_s
  unfold ref04_IsName_v
  have no : Q (.bool false) h := hk false fun h => by cases h
  refine ifS0 (fun _ => no) fun e => ?_
  rw [bs_size]
  refine ifD (fun _ => no) fun e2 => ?_
  have hp := List.length_pos_iff.2 e
  refine ixS s 0 rfl hp (letter_c _ fun b => ⟨b, rfl, ifN (fun _ => no) fun _ => ?_⟩)
  refine LoopV.go (fun n st h' => ∃ i : Nat, st = (i : Int) ∧ i ≤ s.length ∧ n = s.length - i ∧ h' = h) s.length ⟨0, rfl, by omega, rfl, rfl⟩ ?_
  rintro n - h1 ⟨i, rfl, hi, rfl, rfl⟩ Kn hK
  unfold ref04_IsName_l1
  rw [bs_size]
  refine ifD (fun e3 => ?_) fun e3 => hk true fun _ => by omega
  have hil : i < s.length := by omega
  refine ixS s i rfl hil (inName_c _ fun b => ⟨b, rfl, ifN (fun _ => no) fun _ => ?_⟩)
  rw [wr (by omega) (by omega)]
  exact hK (s.length - (i + 1)) _ _ (by omega) ⟨i + 1, rfl, hil, rfl, rfl⟩
/-! ### Addresses -/
theorem Width_c [Gh] (a : S_api_Addr) (hk : ∀ h', Fr (fun _ => False) h h' → Q (.int .i64 (if a.V6 = true then 128 else 32)) h') : CallT Try.prog fn_ref06_Width #[.agg a.vals.toArray] h Q := by
  apply ref06_Width_s
  unfold ref06_Width_v
  refine al_mk (vs := a.vals) fun t1 h1 f1 e1 o1 => ?_
  have c1 : Cells h1 t1 a.vals := o1.cells
  refine ldB_mk (c1.at0 rfl) (ifB (fun e => ?_) fun e => ?_)
  · have := hk h1 f1; rw [if_pos e] at this; exact this
  · have := hk h1 f1; rw [if_neg (by rw [e]; decide)] at this; exact this
theorem Valid_c [Gh] (a : S_api_Addr) (hk : ∀ (b : Bool) h', Fr (fun _ => False) h h' → Q (.bool b) h') : CallT Try.prog fn_ref06_Valid #[.agg a.vals.toArray] h Q := by
  apply ref06_Valid_s
  unfold ref06_Valid_v
  refine al_mk (vs := a.vals) fun t1 h1 f1 e1 o1 => ?_
  have c1 : Cells h1 t1 a.vals := o1.cells
  exact ldB_mk (c1.at0 rfl) (ifB (fun e => hk _ h1 f1) fun e => ldI_mk (c1.at (j := 1) rfl) (ifE (fun _ => ldI_mk (c1.at (j := 2) rfl) (hk _ h1 f1)) fun _ => hk _ h1 f1))
theorem wr64 (x : Int) : 0 ≤ wrap .u64 x := by
  unfold IntKind.wrap IntKind.signed
  simp only [Bool.false_and, Bool.false_eq_true, if_false]
  exact Int.emod_nonneg _ (by decide)
theorem Bit_c [Gh] (a : S_api_Addr) (i : Int) (hk : ∀ (b : Bool) h', Fr (fun _ => False) h h' → Q (.bool b) h') : CallT Try.prog fn_ref06_Bit #[.agg a.vals.toArray, .int .i64 i] h Q := by
  apply ref06_Bit_s
  unfold ref06_Bit_v
  refine al_mk (vs := a.vals) fun t1 h1 f1 e1 o1 => ?_
  have c1 : Cells h1 t1 a.vals := o1.cells
  refine ldB_mk (c1.at0 rfl) (ifN (fun e => ldI_mk (c1.at (j := 2) rfl) ⟨wr64 _, hk _ h1 f1⟩) fun e => ifD (fun _ => ldI_mk (c1.at (j := 1) rfl) ⟨wr64 _, hk _ h1 f1⟩) fun _ => ldI_mk (c1.at (j := 2) rfl) ⟨wr64 _, hk _ h1 f1⟩)
theorem with_c [Gh] (a : S_api_Addr) (n : Int) (hn : 0 ≤ n ∧ n ≤ 1000) (one : Bool) (hk : ∀ (b : Bool) (x y : Int) h', Fr (fun _ => False) h h' → Q (.agg #[.bool b, .int .u64 x, .int .u64 y]) h') : CallT Try.prog fn_ref06_with #[.agg a.vals.toArray, .int .i64 n, .bool one] h Q := by
  apply ref06_with_s
  unfold ref06_with_v
  refine al_mk (vs := a.vals) fun t3 h1 f1 e1 o1 => ?_
  have z1 := f1.size
  have l1 := o1.lt
  refine al_mk (vs := [.bool false, .int .u64 0, .int .u64 0]) fun t6 h2 f2 e2 o2 => ?_
  have z2 := f2.size
  have f12 := f1.trans f2
  have o12 : Own h2 t3 a.vals T_api_Addr := o1.fr0 f2
  refine LoopV.go (fun m st h' => ∃ (i : Nat) (x : S_api_Addr), st = (i : Int) ∧ n ≤ i ∧ i ≤ 1000 ∧ m = 1000 - i ∧ x.V6 = a.V6 ∧ Fr (fun _ => False) h h' ∧ Own h' t3 x.vals T_api_Addr ∧ Own h' t6 [.bool false, .int .u64 0, .int .u64 0] T_api_Addr) (1000 - n.toNat)
    ⟨n.toNat, a, by omega, by omega, by omega, rfl, rfl, f12, o12, o2⟩ ?_
  rintro m - h3 ⟨i, x, rfl, hi1, hi2, rfl, hx, f3, o3, o6⟩ Kn hK
  unfold ref06_with_l1
  have c3 := o3.cells
  refine ldB_mk (c3.at0 rfl) (ldI_mk (c3.at (j := 1) rfl) (ldI_mk (c3.at (j := 2) rfl) ?_))
  refine Width_c x fun h4 f4 => ⟨_, rfl, ?_⟩
  have o34 := o3.fr0 f4
  have o64 := o6.fr0 f4
  have c4 := o34.cells
  have f34 := f3.trans f4
  refine ifD (fun e => ?_) fun e => ?_
  · have hil : i < 128 := by split at e <;> omega
    refine ldB_mk (c4.at0 rfl) (ldI_mk (c4.at (j := 1) rfl) (ldI_mk (c4.at (j := 2) rfl) ?_))
    refine Bit_c x i fun b h5 f5 => ⟨b, rfl, ?_⟩
    have o35 := o34.fr0 f5
    have o65 := o64.fr0 f5
    have c5 := o35.cells
    have f35 := f34.trans f5
    rw [wr (x := (i : Int) + 1) (by omega) (by omega)]
    have go : ∀ (x' : S_api_Addr) h6, x'.V6 = a.V6 → Fr (fun _ => False) h h6 → Own h6 t3 x'.vals T_api_Addr → Own h6 t6 [.bool false, .int .u64 0, .int .u64 0] T_api_Addr → Kn ((i : Int) + 1) h6 := fun x' h6 hx' f6 o36 o66 => hK (1000 - (i + 1)) _ _ (by omega) ⟨i + 1, x', rfl, by omega, by omega, rfl, hx', f6, o36, o66⟩
    by_cases hb : b = one
    · rw [if_pos (by rw [hb]; simp)]; exact go x h5 hx f35 o35 o65
    · rw [if_neg (by simpa using hb)]
      have hi' : ∀ v : Int, st1 h5 (Addr.add t3 1) (.int .u64 v) fun h6 => Kn ((i : Int) + 1) h6 := fun v => st1_own o35 1 (by show 1 < 3; omega) rfl fun h6 f6 s6 o6' => go ⟨x.V6, v, x.Lo⟩ h6 hx (f35.tr f6 fun y hy hh => by omega) o6' (o65.fr f6 fun hh => by omega)
      have lo' : ∀ v : Int, st1 h5 (Addr.add t3 2) (.int .u64 v) fun h6 => Kn ((i : Int) + 1) h6 := fun v => st1_own o35 2 (by show 2 < 3; omega) rfl fun h6 f6 s6 o6' => go ⟨x.V6, x.Hi, v⟩ h6 hx (f35.tr f6 fun y hy hh => by omega) o6' (o65.fr f6 fun hh => by omega)
      refine ldB_mk (c5.at0 rfl) (ifN (fun _ => ldI_mk (c5.at (j := 2) rfl) ⟨wr64 _, lo' _⟩) fun _ => ifD (fun _ => ldI_mk (c5.at (j := 1) rfl) ⟨wr64 _, hi' _⟩) fun _ => ldI_mk (c5.at (j := 2) rfl) ⟨wr64 _, lo' _⟩)
  · unfold ref06_with_b2
    refine ldB_mk (c4.at0 rfl) (ldI_mk (c4.at (j := 1) rfl) (ldI_mk (c4.at (j := 2) rfl) ?_))
    refine stN_own o64 (ws := x.vals) (by rfl) (by rfl) fun h5 f5 s5 o5 => ?_
    have c5 := o5.cells
    refine ldB_mk (c5.at0 rfl) (ldI_mk (c5.at (j := 1) rfl) (ldI_mk (c5.at (j := 2) rfl) ?_))
    exact hk _ _ _ h5 (f34.tr f5 fun y hy hh => by omega)
theorem ValidPrefix_c [Gh] (p : S_api_Prefix) (hk : ∀ (b : Bool) h', Fr (fun _ => False) h h' → Q (.bool b) h') : CallT Try.prog fn_ref06_ValidPrefix #[.agg p.vals.toArray] h Q := by
  apply ref06_ValidPrefix_s
  unfold ref06_ValidPrefix_v
  refine al_mk (vs := p.vals) fun t1 h1 f1 e1 o1 => ?_
  have c1 : Cells h1 t1 p.vals := o1.cells
  refine ldB_mk (c1.at0 rfl) (ldI_mk (c1.at (j := 1) rfl) (ldI_mk (c1.at (j := 2) rfl) ?_))
  refine Valid_c p.Addr fun b h2 f2 => ⟨b, rfl, ifB (fun _ => ?_) fun _ => hk _ h2 (f1.trans f2)⟩
  have c2 := c1.fr0 f2
  refine ldI_mk (c2.at (j := 3) rfl) (ifD (fun e => ?_) fun _ => hk _ h2 (f1.trans f2))
  refine ldI_mk (c2.at (j := 3) rfl) (ldB_mk (c2.at0 rfl) (ldI_mk (c2.at (j := 1) rfl) (ldI_mk (c2.at (j := 2) rfl) ?_)))
  refine Width_c p.Addr fun h3 f3 => ⟨_, rfl, ldI_mk ((c2.fr0 f3).at (j := 3) rfl) rfl, ?_⟩
  have c3 := c2.fr0 f3
  have f13 := (f1.trans f2).trans f3
  refine ifD (fun e2 => ?_) fun _ => hk _ h3 f13
  refine ldB_mk (c3.at0 rfl) (ldI_mk (c3.at (j := 1) rfl) (ldI_mk (c3.at (j := 2) rfl) (ldI_mk (c3.at (j := 3) rfl) (ldB_mk (c3.at0 rfl) (ldI_mk (c3.at (j := 1) rfl) (ldI_mk (c3.at (j := 2) rfl) ?_))))))
  refine with_c p.Addr p.Bits ⟨by omega, by split at e2 <;> omega⟩ false fun b x y h4 f4 => ⟨_, _, _, rfl, ?_⟩
  have c4 := c3.fr0 f4
  exact ⟨ldB_mk (c4.at0 rfl) (ldI_mk (c4.at (j := 1) rfl) (ldI_mk (c4.at (j := 2) rfl) rfl)), hk _ h4 (f13.trans f4)⟩
end
end Go.Proofs.Ytjelnknmjhceiaa.Au
