/-
  Prefixes: the functions of both sides.
-/
import Derived.Test.YtfcnplakgmdfiaaThrV
namespace Go.Proofs.Ytfcnplakgmdfiaa
set_option linter.unusedSimpArgs false
set_option linter.unusedVariables false
set_option maxRecDepth 20000
open Go
open Go.IntKind (wrap)
theorem Qeq {Q : Value → Heap → Prop} {v v' : Value} {h : Heap} (hk : Q v h) (e : v = v') : Q v' h := e ▸ hk
structure An where
  v6 : Bool
  hi : Nat
  lo : Nat
def An.ok (a : An) : Prop := a.hi < 18446744073709551616 ∧ a.lo < 18446744073709551616
def An.vals (a : An) : List Value := [.bool a.v6, .int .u64 a.hi, .int .u64 a.lo]
structure Pn where
  a : An
  bits : Int
def Pn.vals (p : Pn) : List Value := [.bool p.a.v6, .int .u64 p.a.hi, .int .u64 p.a.lo, .int .i64 p.bits]
structure Rg where
  a : An
  b : An
def rgV (r : Rg) : List Value := [.bool r.a.v6, .int .u64 r.a.hi, .int .u64 r.a.lo, .bool r.b.v6, .int .u64 r.b.hi, .int .u64 r.b.lo]
theorem rgV_len (r : Rg) : (rgV r).length = 6 := rfl
def fineB (a : An) : Bool := a.v6 || (decide (a.hi = 0) && decide (a.lo < 4294967296))
def befB (a b : An) : Bool := if a.v6 ≠ b.v6 then b.v6 else if a.hi ≠ b.hi then decide (a.hi < b.hi) else decide (a.lo < b.lo)
def rightB (p : Pn) : Bool := fineB p.a && decide (0 ≤ p.bits) && decide (p.bits ≤ sz p.a.v6) && decide (p.a.hi % 2 ^ E (sz p.a.v6 - p.bits - 64) = 0) && decide (p.a.lo % 2 ^ E (sz p.a.v6 - p.bits) = 0)
def insB (p : Pn) (a : An) : Bool := (p.a.v6 == a.v6) && decide (a.hi / 2 ^ E (sz a.v6 - p.bits - 64) = p.a.hi / 2 ^ E (sz a.v6 - p.bits - 64)) && decide (a.lo / 2 ^ E (sz a.v6 - p.bits) = p.a.lo / 2 ^ E (sz a.v6 - p.bits))
theorem Valid_c [Gh] (a : An) {h : Heap} {Q : Value → Heap → Prop} (hk : ∀ h', Fr (fun _ => False) h h' → Q (.bool (fineB a)) h') : CallT Try.prog fn_address_Valid #[.agg #[.bool a.v6, .int .u64 a.hi, .int .u64 a.lo]] h Q := by
  apply address_Valid_s
  unfold address_Valid_v
  refine al_mk (vs := a.vals) fun t h1 f1 e1 o => ?_
  have hk := hk h1 f1
  unfold fineB at hk
  have c : Cells h1 t [.bool a.v6, .int .u64 a.hi, .int .u64 a.lo] := o.cells
  refine ldB_mk (c.at0 rfl) (ifB (fun e => ?_) fun e => ?_)
  · rw [e] at hk; exact hk
  rw [e] at hk
  refine ldI_mk (c.at (j := 1) rfl) (ifE (fun e1 => ?_) fun e1 => ?_)
  · rw [decide_eq_true (show a.hi = 0 by omega)] at hk
    refine ldI_mk (c.at (j := 2) rfl) ?_
    have : decide (((a.lo : Nat) : Int) ≤ 4294967295) = decide (a.lo < 4294967296) := by rw [decide_eq_decide]; omega
    rw [this]; exact hk
  · rw [decide_eq_false (show ¬ a.hi = 0 by omega)] at hk; exact hk
theorem Fine_c [Gh] (a : An) {h : Heap} {Q : Value → Heap → Prop} (hk : ∀ h', Fr (fun _ => False) h h' → Q (.bool (fineB a)) h') : CallT Try.prog fn_ref07_Fine #[.agg #[.bool a.v6, .int .u64 a.hi, .int .u64 a.lo]] h Q := by
  apply ref07_Fine_s
  unfold ref07_Fine_v
  refine al_mk (vs := a.vals) fun t h1 f1 e1 o => ?_
  have hk := hk h1 f1
  unfold fineB at hk
  have c : Cells h1 t [.bool a.v6, .int .u64 a.hi, .int .u64 a.lo] := o.cells
  refine ldB_mk (c.at0 rfl) (ifB (fun e => ?_) fun e => ?_)
  · rw [e] at hk; exact hk
  rw [e] at hk
  refine ldI_mk (c.at (j := 1) rfl) (ifE (fun e1 => ?_) fun e1 => ?_)
  · rw [decide_eq_true (show a.hi = 0 by omega)] at hk
    refine ldI_mk (c.at (j := 2) rfl) ?_
    have : decide (((a.lo : Nat) : Int) < 4294967296) = decide (a.lo < 4294967296) := by rw [decide_eq_decide]; omega
    rw [this]; exact hk
  · rw [decide_eq_false (show ¬ a.hi = 0 by omega)] at hk; exact hk
theorem Before_c [Gh] (a b : An) {h : Heap} {Q : Value → Heap → Prop} (hk : ∀ h', Fr (fun _ => False) h h' → Q (.bool (befB a b)) h') : CallT Try.prog fn_ref07_Before #[.agg #[.bool a.v6, .int .u64 a.hi, .int .u64 a.lo], .agg #[.bool b.v6, .int .u64 b.hi, .int .u64 b.lo]] h Q := by
  apply ref07_Before_s
  unfold ref07_Before_v
  refine al_mk (vs := a.vals) fun t h1 f1 e1 o1 => ?_
  refine al_mk (vs := b.vals) fun t' h2 f2 e2 o2 => ?_
  have hk := hk h2 (f1.trans f2)
  unfold befB at hk
  have c : Cells h2 t [.bool a.v6, .int .u64 a.hi, .int .u64 a.lo] := (o1.fr0 f2).cells
  have d : Cells h2 t' [.bool b.v6, .int .u64 b.hi, .int .u64 b.lo] := o2.cells
  refine ldB_mk (c.at0 rfl) (ldB_mk (d.at0 rfl) (ifN (fun e => ?_) fun e => ?_))
  · rw [if_pos (by simpa using e)] at hk
    exact ldB_mk (d.at0 rfl) hk
  · rw [if_neg (by simpa using e)] at hk
    refine ldI_mk (c.at (j := 1) rfl) (ldI_mk (d.at (j := 1) rfl) (ifNe (fun e => ?_) fun e => ?_))
    · rw [if_pos (by omega)] at hk
      refine ldI_mk (c.at (j := 1) rfl) (ldI_mk (d.at (j := 1) rfl) ?_)
      have : decide (((a.hi : Nat) : Int) < ((b.hi : Nat) : Int)) = decide (a.hi < b.hi) := by rw [decide_eq_decide]; omega
      rw [this]; exact hk
    · rw [if_neg (by omega)] at hk
      refine ldI_mk (c.at (j := 2) rfl) (ldI_mk (d.at (j := 2) rfl) ?_)
      have : decide (((a.lo : Nat) : Int) < ((b.lo : Nat) : Int)) = decide (a.lo < b.lo) := by rw [decide_eq_decide]; omega
      rw [this]; exact hk
theorem ValidPrefix_c [Gh] (p : Pn) (hp : p.a.ok) {h : Heap} {Q : Value → Heap → Prop} (hk : ∀ h', Fr (fun _ => False) h h' → Q (.bool (rightB p)) h') : CallT Try.prog fn_address_ValidPrefix #[.agg #[.bool p.a.v6, .int .u64 p.a.hi, .int .u64 p.a.lo, .int .i64 p.bits]] h Q := by
  apply address_ValidPrefix_s
  unfold address_ValidPrefix_v
  refine al_mk (vs := p.vals) fun t h1 f1 e1 o => ?_
  have c : Cells h1 t [.bool p.a.v6, .int .u64 p.a.hi, .int .u64 p.a.lo, .int .i64 p.bits] := o.cells
  unfold rightB at hk
  refine (ldB_mk (c.at0 rfl) (ldI_mk (c.at rfl) (ldI_mk (c.at rfl) ?_)))
  refine Valid_c p.a fun h2 f2 => ⟨_, rfl, ?_⟩
  have F2 := f1.trans f2
  have c2 := c.fr0 f2
  refine ifN (fun e => ?_) fun e => ?_
  · have := hk h2 F2
    rw [e] at this; exact this
  rw [e] at hk
  refine ldI_mk (c2.at (j := 3) rfl) (ifD (fun e2 => ?_) fun e2 => ?_)
  · have := hk h2 F2
    rw [decide_eq_false (show ¬ 0 ≤ p.bits by omega)] at this; exact this
  rw [decide_eq_true (show 0 ≤ p.bits by omega)] at hk
  refine ldI_mk (c2.at (j := 3) rfl) ?_
  refine (ldB_mk (c2.at0 rfl) (ldI_mk (c2.at rfl) (ldI_mk (c2.at rfl) ?_)))
  refine size_c _ _ _ fun h3 f3 => ⟨_, rfl, ?_⟩
  have c3 := c2.fr0 f3
  have F3 := F2.trans f3
  refine ⟨ldI_mk (c3.at (j := 3) rfl) rfl, ifD (fun e3 => ?_) fun e3 => ?_⟩
  · have := hk h3 F3
    rw [decide_eq_false (show ¬ p.bits ≤ sz p.a.v6 by omega)] at this; exact this
  rw [decide_eq_true (show p.bits ≤ sz p.a.v6 by omega)] at hk
  have hs := sz_rng p.a.v6
  refine (ldB_mk (c3.at0 rfl) (ldI_mk (c3.at rfl) (ldI_mk (c3.at rfl) ?_)))
  refine ldI_mk (c3.at (j := 3) rfl) (mask_c _ _ _ _ (by omega) fun h4 f4 => ⟨_, _, rfl, ?_⟩)
  have c4 := c3.fr0 f4
  have hk := hk h4 (F3.trans f4)
  refine ldI_mk (c4.at (j := 1) rfl) ?_
  rw [andW _ hp.1]
  refine ifE (fun e5 => ?_) fun e5 => ?_
  · rw [decide_eq_true (show p.a.hi % 2 ^ E (sz p.a.v6 - p.bits - 64) = 0 by omega)] at hk
    refine ldI_mk (c4.at (j := 2) rfl) ?_
    rw [andW _ hp.2]
    refine Qeq hk ?_
    congr 1
    rw [Bool.eq_iff_iff]
    simp only [Bool.true_and, decide_eq_true_eq, beq_iff_eq]
    omega
  · rw [decide_eq_false (show ¬ p.a.hi % 2 ^ E (sz p.a.v6 - p.bits - 64) = 0 by omega)] at hk; exact hk
theorem Right_c [Gh] (p : Pn) (hp : p.a.ok) {h : Heap} {Q : Value → Heap → Prop} (hk : ∀ h', Fr (fun _ => False) h h' → Q (.bool (rightB p)) h') : CallT Try.prog fn_ref07_Right #[.agg #[.bool p.a.v6, .int .u64 p.a.hi, .int .u64 p.a.lo, .int .i64 p.bits]] h Q := by
  apply ref07_Right_s
  unfold ref07_Right_v
  refine al_mk (vs := p.vals) fun t h1 f1 e1 o => ?_
  have c : Cells h1 t [.bool p.a.v6, .int .u64 p.a.hi, .int .u64 p.a.lo, .int .i64 p.bits] := o.cells
  unfold rightB at hk
  refine (ldB_mk (c.at0 rfl) (ldI_mk (c.at rfl) (ldI_mk (c.at rfl) ?_)))
  refine Fine_c p.a fun h2 f2 => ⟨_, rfl, ?_⟩
  have F2 := f1.trans f2
  have c2 := c.fr0 f2
  refine ifN (fun e => ?_) fun e => ?_
  · have := hk h2 F2
    rw [e] at this; exact this
  rw [e] at hk
  refine ldI_mk (c2.at (j := 3) rfl) (ifD (fun e2 => ?_) fun e2 => ?_)
  · have := hk h2 F2
    rw [decide_eq_false (show ¬ 0 ≤ p.bits by omega)] at this; exact this
  rw [decide_eq_true (show 0 ≤ p.bits by omega)] at hk
  refine ldI_mk (c2.at (j := 3) rfl) ?_
  refine (ldB_mk (c2.at0 rfl) (ldI_mk (c2.at rfl) (ldI_mk (c2.at rfl) ?_)))
  refine rSize_c _ _ _ fun h3 f3 => ⟨_, rfl, ?_⟩
  have c3 := c2.fr0 f3
  have F3 := F2.trans f3
  refine ⟨ldI_mk (c3.at (j := 3) rfl) rfl, ifD (fun e3 => ?_) fun e3 => ?_⟩
  · have := hk h3 F3
    rw [decide_eq_false (show ¬ p.bits ≤ sz p.a.v6 by omega)] at this; exact this
  rw [decide_eq_true (show p.bits ≤ sz p.a.v6 by omega)] at hk
  have hs := sz_rng p.a.v6
  refine (ldB_mk (c3.at0 rfl) (ldI_mk (c3.at rfl) (ldI_mk (c3.at rfl) ?_)))
  refine ldI_mk (c3.at (j := 3) rfl) (rSize_c _ _ _ fun h4 f4 => ⟨_, rfl, ?_⟩)
  have c4 := c3.fr0 f4
  refine ⟨ldI_mk (c4.at (j := 3) rfl) rfl, ?_⟩
  have hk := hk h4 (F3.trans f4)
  rw [wr (by omega) (by omega)]
  refine rMask_c _ (by omega) ⟨_, _, rfl, ?_⟩
  refine ldI_mk (c4.at (j := 1) rfl) ?_
  rw [andW _ hp.1]
  refine ifE (fun e5 => ?_) fun e5 => ?_
  · rw [decide_eq_true (show p.a.hi % 2 ^ E (sz p.a.v6 - p.bits - 64) = 0 by omega)] at hk
    refine ldI_mk (c4.at (j := 2) rfl) ?_
    rw [andW _ hp.2]
    refine Qeq hk ?_
    congr 1
    rw [Bool.eq_iff_iff]
    simp only [Bool.true_and, decide_eq_true_eq, beq_iff_eq]
    omega
  · rw [decide_eq_false (show ¬ p.a.hi % 2 ^ E (sz p.a.v6 - p.bits - 64) = 0 by omega)] at hk; exact hk
structure RightF (p : Pn) : Prop where
  fine : fineB p.a = true
  b0 : 0 ≤ p.bits
  b1 : p.bits ≤ sz p.a.v6
  mh : p.a.hi % 2 ^ E (sz p.a.v6 - p.bits - 64) = 0
  ml : p.a.lo % 2 ^ E (sz p.a.v6 - p.bits) = 0
theorem right_of {p : Pn} (h : rightB p = true) : RightF p := by
  unfold rightB at h
  simp only [Bool.and_eq_true, decide_eq_true_eq] at h
  exact ⟨h.1.1.1.1, h.1.1.1.2, h.1.1.2, h.1.2, h.2⟩
theorem Contains_c [Gh] (p : Pn) (a : An) (hp : p.a.ok) (ha : a.ok) (R : RightF p) {h : Heap} {Q : Value → Heap → Prop} (hk : ∀ h', Fr (fun _ => False) h h' → Q (.bool (insB p a)) h') :
    CallT Try.prog fn_address_Contains #[.agg #[.bool p.a.v6, .int .u64 p.a.hi, .int .u64 p.a.lo, .int .i64 p.bits], .agg #[.bool a.v6, .int .u64 a.hi, .int .u64 a.lo]] h Q := by
  apply address_Contains_s
  unfold address_Contains_v
  refine al_mk (vs := p.vals) fun t h1 f1 e1 o1 => ?_
  refine al_mk (vs := a.vals) fun t' h2 f2 e2 o2 => ?_
  have F2 := f1.trans f2
  have c : Cells h2 t [.bool p.a.v6, .int .u64 p.a.hi, .int .u64 p.a.lo, .int .i64 p.bits] := (o1.fr0 f2).cells
  have d : Cells h2 t' [.bool a.v6, .int .u64 a.hi, .int .u64 a.lo] := o2.cells
  unfold insB at hk
  refine ldB_mk (c.at0 rfl) (ldB_mk (d.at0 rfl) (ifN (fun e => ?_) fun e => ?_))
  · have := hk h2 F2
    rw [e] at this; exact this
  rw [e] at hk
  have hv : p.a.v6 = a.v6 := by simpa using e
  have hs := sz_rng p.a.v6
  have b0 := R.b0
  have b1 := R.b1
  refine (ldB_mk (d.at0 rfl) (ldI_mk (d.at rfl) (ldI_mk (d.at rfl) ?_)))
  refine ldI_mk (c.at (j := 3) rfl) (mask_c _ _ _ _ (by omega) fun h3 f3 => ⟨_, _, rfl, ?_⟩)
  have c3 := c.fr0 f3
  have d3 := d.fr0 f3
  have hk := hk h3 (F2.trans f3)
  refine ldI_mk (d3.at (j := 1) rfl) (ldI_mk (c3.at (j := 1) rfl) ?_)
  rw [notW _ ha.1, notW _ hp.1]
  have k1 := mul_div_eq a.hi p.a.hi (E (sz a.v6 - p.bits - 64))
  have k2 := mul_div_eq a.lo p.a.lo (E (sz a.v6 - p.bits))
  refine ifE (fun e5 => ?_) fun e5 => ?_
  · rw [decide_eq_true (k1.1 (by omega))] at hk
    refine ldI_mk (d3.at (j := 2) rfl) (ldI_mk (c3.at (j := 2) rfl) ?_)
    rw [notW _ ha.2, notW _ hp.2]
    refine Qeq hk ?_
    congr 1
    rw [Bool.eq_iff_iff]
    simp only [Bool.true_and, decide_eq_true_eq, beq_iff_eq]
    rw [← k2]; omega
  · rw [decide_eq_false (fun hh => e5 (by rw [k1.2 hh]))] at hk; exact hk
def blkP (p : Pn) : Rg := ⟨p.a, ⟨p.a.v6, p.a.hi + M (sz p.a.v6 - p.bits - 64), p.a.lo + M (sz p.a.v6 - p.bits)⟩⟩
theorem Block_c [Gh] (p : Pn) (hp : p.a.ok) (R : RightF p) {h : Heap} {Q : Value → Heap → Prop} (hk : ∀ h', Fr (fun _ => False) h h' → Q (.agg (rgV (blkP p)).toArray) h') :
    CallT Try.prog fn_ref07_Block #[.agg #[.bool p.a.v6, .int .u64 p.a.hi, .int .u64 p.a.lo, .int .i64 p.bits]] h Q := by
  apply ref07_Block_s
  unfold ref07_Block_v
  refine al_mk (vs := p.vals) fun t h1 f1 e1 o1 => ?_
  refine al_mk (vs := [.bool false, .int .u64 0, .int .u64 0, .bool false, .int .u64 0, .int .u64 0]) fun t' h2 f2 e2 o2 => ?_
  have F2 := f1.trans f2
  have c : Cells h2 t [.bool p.a.v6, .int .u64 p.a.hi, .int .u64 p.a.lo, .int .i64 p.bits] := (o1.fr0 f2).cells
  have hs := sz_rng p.a.v6
  have b0 := R.b0
  have b1 := R.b1
  refine (ldB_mk (c.at0 rfl) (ldI_mk (c.at rfl) (ldI_mk (c.at rfl) (ldI_mk (c.at rfl) ?_))))
  refine rSize_c _ _ _ fun h3 f3 => ⟨_, rfl, ?_⟩
  have c3 := c.fr0 f3
  refine ⟨ldI_mk (c3.at (j := 3) rfl) rfl, ?_⟩
  rw [wr (by omega) (by omega)]
  refine rMask_c _ (by omega) ⟨_, _, rfl, ?_⟩
  refine (ldB_mk (c3.at0 rfl) (ldI_mk (c3.at rfl) (ldI_mk (c3.at rfl) ?_)))
  refine (ldB_mk (c3.at0 rfl) (ldI_mk (c3.at rfl) (ldI_mk (c3.at rfl) ?_)))
  rw [(orW _ hp.1 _ R.mh).1, (orW _ hp.2 _ R.ml).1]
  refine stN_own (o2.fr0 f3) (ws := rgV (blkP p)) (by rfl) (by rfl) fun h4 f4 s4 o4 => ?_
  have l2 := o2.lt
  have c4 : Cells h4 t' [.bool (blkP p).a.v6, .int .u64 (blkP p).a.hi, .int .u64 (blkP p).a.lo, .bool (blkP p).b.v6, .int .u64 (blkP p).b.hi, .int .u64 (blkP p).b.lo] := o4.cells
  refine (ldB_mk (c4.at0 rfl) (ldI_mk (c4.at rfl) (ldI_mk (c4.at rfl) (ldB_mk (c4.at rfl) (ldI_mk (c4.at rfl) (ldI_mk (c4.at rfl) ?_))))))
  have z1 := f1.size
  exact hk h4 ((F2.trans f3).tr f4 fun x hx hh => by omega)
def someB (r : Rg) : Bool := fineB r.a && fineB r.b && (r.a.v6 == r.b.v6) && !befB r.b r.a
theorem Some_c [Gh] (r : Rg) {h : Heap} {Q : Value → Heap → Prop} (hk : ∀ h', Fr (fun _ => False) h h' → Q (.bool (someB r)) h') :
    CallT Try.prog fn_ref07_Some #[.agg #[.bool r.a.v6, .int .u64 r.a.hi, .int .u64 r.a.lo, .bool r.b.v6, .int .u64 r.b.hi, .int .u64 r.b.lo]] h Q := by
  apply ref07_Some_s
  unfold ref07_Some_v
  refine al_mk (vs := rgV r) fun t h1 f1 e1 o1 => ?_
  have c : Cells h1 t [.bool r.a.v6, .int .u64 r.a.hi, .int .u64 r.a.lo, .bool r.b.v6, .int .u64 r.b.hi, .int .u64 r.b.lo] := o1.cells
  have s : Cells h1 (t.add 3) [.bool r.b.v6, .int .u64 r.b.hi, .int .u64 r.b.lo] := o1.sub 3
  unfold someB at hk
  refine (ldB_mk (c.at0 rfl) (ldI_mk (c.at rfl) (ldI_mk (c.at rfl) ?_)))
  refine Fine_c r.a fun h2 f2 => ⟨_, rfl, ?_⟩
  have F2 := f1.trans f2
  have c2 := c.fr0 f2
  have s2 := s.fr0 f2
  refine ifB (fun e => ?_) fun e => ?_
  · rw [e] at hk
    refine (ldB_mk (s2.at0 rfl) (ldI_mk (s2.at rfl) (ldI_mk (s2.at rfl) ?_)))
    refine Fine_c r.b fun h3 f3 => ⟨_, rfl, ?_⟩
    have F3 := F2.trans f3
    have c3 := c2.fr0 f3
    have s3 := s2.fr0 f3
    refine ifB (fun e2 => ?_) fun e2 => ?_
    · rw [e2] at hk
      refine ldB_mk (c3.at0 rfl) (ldB_mk (s3.at0 rfl) (ifB (fun e4 => ?_) fun e4 => ?_))
      · rw [e4] at hk
        refine (ldB_mk (s3.at0 rfl) (ldI_mk (s3.at rfl) (ldI_mk (s3.at rfl) ?_)))
        refine (ldB_mk (c3.at0 rfl) (ldI_mk (c3.at rfl) (ldI_mk (c3.at rfl) ?_)))
        exact Before_c r.b r.a fun h4 f4 => ⟨_, rfl, hk h4 (F3.trans f4)⟩
      · have := hk h3 F3
        rw [e4] at this; exact this
    · have := hk h3 F3
      rw [e2] at this; exact this
  · have := hk h2 F2
    rw [e] at this; exact this
theorem some_blkP {p : Pn} (hp : p.a.ok) (R : RightF p) : someB (blkP p) = true := by
  have hf := R.fine
  have hs : fineB (blkP p).b = true := by
    unfold fineB at hf ⊢
    unfold blkP
    dsimp only
    cases hv : p.a.v6 with
    | true => rfl
    | false =>
      rw [hv] at hf
      simp only [Bool.false_or, Bool.and_eq_true, decide_eq_true_eq] at hf ⊢
      have mh := R.mh
      have ml := R.ml
      have b0 := R.b0
      have b1 := R.b1
      rw [hv] at ml b1
      have e32 : sz false = 32 := rfl
      rw [e32] at ml b1 ⊢
      have hM : M (32 - p.bits - 64) = 0 := M_neg (by omega)
      rw [hM, hf.1]
      refine ⟨rfl, ?_⟩
      have hE : E (32 - p.bits) ≤ 32 := by unfold E; omega
      have hMl : M (32 - p.bits) + 1 = 2 ^ E (32 - p.bits) := M_add _
      obtain ⟨q, hq⟩ := Nat.dvd_of_mod_eq_zero ml
      have e2 : 2 ^ E (32 - p.bits) * 2 ^ (32 - E (32 - p.bits)) = 4294967296 := by rw [← Nat.pow_add, show E (32 - p.bits) + (32 - E (32 - p.bits)) = 32 by omega]
      have hlt : q < 2 ^ (32 - E (32 - p.bits)) := by
        rcases Nat.lt_or_ge q (2 ^ (32 - E (32 - p.bits))) with h | h
        · exact h
        · have := Nat.mul_le_mul_left (2 ^ E (32 - p.bits)) h; omega
      have : 2 ^ E (32 - p.bits) * (q + 1) ≤ 2 ^ E (32 - p.bits) * 2 ^ (32 - E (32 - p.bits)) := Nat.mul_le_mul_left _ hlt
      rw [Nat.mul_succ] at this; omega
  unfold someB
  rw [hs]
  have h1 : fineB (blkP p).a = true := hf
  rw [h1]
  have h2 : befB (blkP p).b (blkP p).a = false := by
    unfold befB blkP
    dsimp only
    rw [if_neg (fun h => h rfl)]
    split
    · rw [decide_eq_false_iff_not]; omega
    · rw [decide_eq_false_iff_not]; omega
  rw [h2]
  unfold blkP; simp
/-- What the reference asks is what the program asks. -/
theorem in_blkP {p : Pn} {a : An} (hp : p.a.ok) (ha : a.ok) (R : RightF p) : (((blkP p).a.v6 == a.v6) && !befB a (blkP p).a && !befB (blkP p).b a) = insB p a := by
  unfold insB blkP befB
  dsimp only
  by_cases hv : p.a.v6 = a.v6
  · rw [← hv]
    have w1 := within a.hi p.a.hi _ R.mh
    have w2 := within a.lo p.a.lo _ R.ml
    have b0 := R.b0
    have hs := sz_rng p.a.v6
    have o1 := (orW _ hp.1 _ R.mh).2
    have o2 := (orW _ hp.2 _ R.ml).2
    have hd : M (sz p.a.v6 - p.bits - 64) = 0 ∨ M (sz p.a.v6 - p.bits) = 18446744073709551615 := by
      by_cases h : sz p.a.v6 - p.bits ≤ 64
      · exact .inl (M_neg (by omega))
      · exact .inr (M_big (by omega))
    have hlo := ha.2
    have hhi := ha.1
    have hplo := hp.2
    have hphi := hp.1
    generalize M (sz p.a.v6 - p.bits - 64) = m1 at *
    generalize M (sz p.a.v6 - p.bits) = m2 at *
    rw [Bool.eq_iff_iff]
    simp only [Bool.and_eq_true, decide_eq_true_eq, Bool.not_eq_true', beq_self_eq_true, true_and, ne_eq, not_true_eq_false, if_false]
    rw [w1, w2]
    by_cases h1 : a.hi = p.a.hi
    · rw [if_neg (fun h => h h1)]
      by_cases h2 : p.a.hi + m1 = a.hi
      · rw [if_neg (fun h => h h2), decide_eq_false_iff_not, decide_eq_false_iff_not]; omega
      · rw [if_pos h2, decide_eq_false_iff_not, decide_eq_false_iff_not]; omega
    · rw [if_pos h1]
      by_cases h2 : p.a.hi + m1 = a.hi
      · rw [if_neg (fun h => h h2), decide_eq_false_iff_not, decide_eq_false_iff_not]; omega
      · rw [if_pos h2, decide_eq_false_iff_not, decide_eq_false_iff_not]; omega
  · have : (p.a.v6 == a.v6) = false := by simpa using hv
    rw [this]; rfl
end Go.Proofs.Ytfcnplakgmdfiaa
