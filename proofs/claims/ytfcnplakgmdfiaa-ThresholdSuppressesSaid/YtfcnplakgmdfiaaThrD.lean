/-
  The reference's order; orders as laws.
-/
import Derived.Test.YtfcnplakgmdfiaaThrC
namespace Go.Proofs.Ytfcnplakgmdfiaa
set_option linter.unusedSimpArgs false
set_option linter.unusedVariables false
set_option maxRecDepth 20000
open Go
open Go.IntKind (wrap)
theorem less_c [Gh] (k o : Key) {h : Heap} {Q : Value → Heap → Prop} (hk : ∀ h', Fr (fun _ => False) h h' → Q (.bool (lessK k o)) h') : CallT Try.prog fn_ref51_less #[k.v, o.v] h Q := by
  apply ref51_less_s
  unfold ref51_less_v
  refine al_mk (vs := k.vals) fun t2 h1 f1 e1 o2 => ?_
  refine al_mk (vs := o.vals) fun t3 h2 f2 e2 o3 => ?_
  have o2 := o2.fr0 f2
  have f12 := f1.trans f2
  have hq := hk h2 f12
  have eq3 : ∀ x y : Ad, (!((x.v6 == y.v6) && ((x.hi == y.hi) && ((x.lo == y.lo) && true)))) = decide (x ≠ y) := by
    rintro ⟨a, b, c⟩ ⟨a', b', c'⟩
    rw [Bool.eq_iff_iff]; simp [Ad.mk.injEq]
  unfold lessK at hk hq
  refine ldI_mk (o2.cells.at0 rfl) (ldI_mk (o3.cells.at0 rfl) ?_)
  refine ifNe (fun e => ?_) fun e => ?_
  · rw [if_pos e] at hq; exact ldI_mk (o2.cells.at0 rfl) (ldI_mk (o3.cells.at0 rfl) hq)
  rw [if_neg (not_not_intro e)] at hk hq
  refine ldB_mk ((o2.sub 5).at0 rfl) (ldI_mk ((o2.sub 5).at rfl) (ldI_mk ((o2.sub 5).at rfl) ?_))
  refine ldB_mk ((o3.sub 5).at0 rfl) (ldI_mk ((o3.sub 5).at rfl) (ldI_mk ((o3.sub 5).at rfl) ?_))
  rw [eq3]
  refine ifD (fun e => ?_) fun e => ?_
  · rw [if_pos e] at hk
    refine ldB_mk ((o2.sub 5).at0 rfl) (ldI_mk ((o2.sub 5).at rfl) (ldI_mk ((o2.sub 5).at rfl) ?_))
    refine ldB_mk ((o3.sub 5).at0 rfl) (ldI_mk ((o3.sub 5).at rfl) (ldI_mk ((o3.sub 5).at rfl) ?_))
    exact before_c k.a o.a fun h3 f3 => ⟨_, rfl, hk h3 (f12.trans f3)⟩
  rw [if_neg e] at hk hq
  refine ldB_mk ((o2.sub 8).at0 rfl) (ldI_mk ((o2.sub 8).at rfl) (ldI_mk ((o2.sub 8).at rfl) ?_))
  refine ldB_mk ((o3.sub 8).at0 rfl) (ldI_mk ((o3.sub 8).at rfl) (ldI_mk ((o3.sub 8).at rfl) ?_))
  rw [eq3]
  refine ifD (fun e => ?_) fun e => ?_
  · rw [if_pos e] at hk
    refine ldB_mk ((o2.sub 8).at0 rfl) (ldI_mk ((o2.sub 8).at rfl) (ldI_mk ((o2.sub 8).at rfl) ?_))
    refine ldB_mk ((o3.sub 8).at0 rfl) (ldI_mk ((o3.sub 8).at rfl) (ldI_mk ((o3.sub 8).at rfl) ?_))
    exact before_c k.b o.b fun h3 f3 => ⟨_, rfl, hk h3 (f12.trans f3)⟩
  rw [if_neg e] at hq
  refine ldI_mk ((o2.sub 1).at0 rfl) (ldI_mk ((o3.sub 1).at0 rfl) ?_)
  refine ifNe (fun e => ?_) fun e => ?_
  · rw [if_pos e] at hq; exact ldI_mk ((o2.sub 1).at0 rfl) (ldI_mk ((o3.sub 1).at0 rfl) hq)
  rw [if_neg (not_not_intro e)] at hq
  refine ldI_mk ((o2.sub 1).at rfl) (ldI_mk ((o3.sub 1).at rfl) ?_)
  refine ifNe (fun e => ?_) fun e => ?_
  · rw [if_pos e] at hq; exact ldI_mk ((o2.sub 1).at rfl) (ldI_mk ((o3.sub 1).at rfl) hq)
  rw [if_neg (not_not_intro e)] at hq
  refine ldI_mk ((o2.sub 1).at rfl) (ldI_mk ((o3.sub 1).at rfl) ?_)
  refine ifNe (fun e => ?_) fun e => ?_
  · rw [if_pos e] at hq; exact ldI_mk ((o2.sub 1).at rfl) (ldI_mk ((o3.sub 1).at rfl) hq)
  rw [if_neg (not_not_intro e)] at hq
  exact ldI_mk ((o2.sub 1).at rfl) (ldI_mk ((o3.sub 1).at rfl) hq)
/-! ### Orders -/
def lexL : List Int → List Int → Bool
  | x :: l, y :: m => if x ≠ y then decide (x < y) else lexL l m
  | _, _ => false
def b2i (b : Bool) : Int := if b then 1 else 0
def Key.ints (k : Key) : List Int := [k.sid, b2i k.a.v6, k.a.hi, k.a.lo, b2i k.b.v6, k.b.hi, k.b.lo, k.th.kind, k.th.by_, k.th.count, k.th.secs]
theorem lexL_irr : ∀ l, lexL l l = false
  | [] => rfl
  | x :: l => by unfold lexL; rw [if_neg (by simp)]; exact lexL_irr l
theorem lexL_trans : ∀ (a b c : List Int), a.length = b.length → b.length = c.length → lexL a b = true → lexL b c = true → lexL a c = true
  | [], _, _, _, _, h, _ => by simp [lexL] at h
  | x :: a, [], _, h, _, _, _ => by cases h
  | x :: a, y :: b, [], _, h, _, _ => by cases h
  | x :: a, y :: b, z :: c, h1, h2, h3, h4 => by
    unfold lexL at h3 h4 ⊢
    by_cases e1 : x = y
    · rw [if_neg (not_not_intro e1)] at h3
      by_cases e2 : y = z
      · rw [if_neg (not_not_intro e2)] at h4
        rw [if_neg (not_not_intro (e1.trans e2))]
        exact lexL_trans a b c (by simpa using h1) (by simpa using h2) h3 h4
      · rw [if_pos e2] at h4
        rw [if_pos (by omega)]
        rw [decide_eq_true_eq] at h4 ⊢; omega
    · rw [if_pos e1, decide_eq_true_eq] at h3
      by_cases e2 : y = z
      · rw [if_pos (by omega), decide_eq_true_eq]; omega
      · rw [if_pos e2, decide_eq_true_eq] at h4
        rw [if_pos (by omega), decide_eq_true_eq]; omega
theorem lexL_total : ∀ (a b : List Int), a.length = b.length → lexL a b = false → lexL b a = false → a = b
  | [], [], _, _, _ => rfl
  | [], _ :: _, h, _, _ => by cases h
  | _ :: _, [], h, _, _ => by cases h
  | x :: a, y :: b, h, h1, h2 => by
    unfold lexL at h1 h2
    by_cases e : x = y
    · rw [if_neg (not_not_intro e)] at h1
      rw [if_neg (not_not_intro e.symm)] at h2
      rw [e, lexL_total a b (by simpa using h) h1 h2]
    · rw [if_pos e, decide_eq_false_iff_not] at h1
      rw [if_pos (fun h => e h.symm), decide_eq_false_iff_not] at h2
      omega
theorem b2i_inj {a b : Bool} : b2i a = b2i b ↔ a = b := by cases a <;> cases b <;> decide
theorem ints_inj {a b : Key} (h : a.ints = b.ints) : a = b := by
  obtain ⟨s, ⟨t1, t2, t3, t4⟩, ⟨a1, a2, a3⟩, ⟨b1, b2, b3⟩⟩ := a
  obtain ⟨s', ⟨t1', t2', t3', t4'⟩, ⟨a1', a2', a3'⟩, ⟨b1', b2', b3'⟩⟩ := b
  simp only [Key.ints, List.cons.injEq, b2i_inj] at h
  obtain ⟨rfl, rfl, rfl, rfl, rfl, rfl, rfl, rfl, rfl, rfl, rfl, _⟩ := h
  rfl
theorem lexAd (x y : Ad) (l m : List Int) : lexL (b2i x.v6 :: x.hi :: x.lo :: l) (b2i y.v6 :: y.hi :: y.lo :: m) = if x ≠ y then ltA x y else lexL l m := by
  obtain ⟨a, b, c⟩ := x
  obtain ⟨a', b', c'⟩ := y
  unfold ltA
  simp only [lexL, ne_eq, b2i_inj, Ad.mk.injEq]
  by_cases e1 : a = a'
  · subst e1
    by_cases e2 : b = b'
    · subst e2
      by_cases e3 : c = c'
      · subst e3; simp
      · simp [e3]
    · simp [e2]
  · simp [e1]
    cases a <;> cases a' <;> simp_all [b2i]
theorem lessK_lex (a b : Key) : lessK a b = lexL a.ints b.ints := by
  unfold lessK Key.ints
  rw [lexL, lexAd, lexAd]
  simp only [lexL]
  split
  · rfl
  split
  · rfl
  split
  · rfl
  split
  · rfl
  split
  · rfl
  split
  · rfl
  · by_cases e : a.th.secs = b.th.secs
    · simp [e]
    · simp [e]
end Go.Proofs.Ytfcnplakgmdfiaa
