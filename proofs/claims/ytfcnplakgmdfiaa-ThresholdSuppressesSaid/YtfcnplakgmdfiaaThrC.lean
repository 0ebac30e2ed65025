/-
  The order of keys.
-/
import Derived.Test.YtfcnplakgmdfiaaThrB
namespace Go.Proofs.Ytfcnplakgmdfiaa
set_option linter.unusedSimpArgs false
set_option linter.unusedVariables false
set_option maxRecDepth 20000
open Go
open Go.IntKind (wrap)
def ltA (x y : Ad) : Bool := if x.v6 ≠ y.v6 then y.v6 else if x.hi ≠ y.hi then decide (x.hi < y.hi) else decide (x.lo < y.lo)
def cmpA (x y : Ad) : Int := if x = y then 0 else if ltA x y then -1 else 1
def cmpI (x y : Int) : Int := if x < y then -1 else if x > y then 1 else 0
def orL : List Int → Int
  | [] => 0
  | x :: l => if x ≠ 0 then x else orL l
def lessK (a b : Key) : Bool :=
  if a.sid ≠ b.sid then decide (a.sid < b.sid) else if a.a ≠ b.a then ltA a.a b.a else if a.b ≠ b.b then ltA a.b b.b
  else if a.th.kind ≠ b.th.kind then decide (a.th.kind < b.th.kind) else if a.th.by_ ≠ b.th.by_ then decide (a.th.by_ < b.th.by_) else if a.th.count ≠ b.th.count then decide (a.th.count < b.th.count) else decide (a.th.secs < b.th.secs)
def cmpK (a b : Key) : Int := orL [cmpI a.sid b.sid, cmpA a.a b.a, cmpA a.b b.b, cmpI a.th.kind b.th.kind, cmpI a.th.by_ b.th.by_, cmpI a.th.count b.th.count, cmpI a.th.secs b.th.secs]
theorem cmpI_zero {x y : Int} : cmpI x y = 0 ↔ x = y := by unfold cmpI; split <;> first | omega | (split <;> omega)
theorem cmpI_neg {x y : Int} : cmpI x y < 0 ↔ x < y := by unfold cmpI; split <;> first | omega | (split <;> omega)
theorem cmpA_zero {x y : Ad} : cmpA x y = 0 ↔ x = y := by
  unfold cmpA; split
  · rename_i h; simp [h]
  · rename_i h; split <;> simp [h]
theorem cmpA_neg {x y : Ad} (h : x ≠ y) : cmpA x y < 0 ↔ ltA x y = true := by
  unfold cmpA; rw [if_neg h]; split
  · rename_i e; simp [e]
  · rename_i e; simp [e]
theorem cmpK_neg (a b : Key) : cmpK a b < 0 ↔ lessK a b = true := by
  unfold cmpK lessK orL
  by_cases h1 : a.sid = b.sid
  · rw [if_neg (by rw [cmpI_zero.2 h1]; simp), if_neg (not_not_intro h1)]
    unfold orL
    by_cases h2 : a.a = b.a
    · rw [if_neg (by rw [cmpA_zero.2 h2]; simp), if_neg (not_not_intro h2)]
      unfold orL
      by_cases h3 : a.b = b.b
      · rw [if_neg (by rw [cmpA_zero.2 h3]; simp), if_neg (not_not_intro h3)]
        unfold orL
        by_cases h4 : a.th.kind = b.th.kind
        · rw [if_neg (by rw [cmpI_zero.2 h4]; simp), if_neg (not_not_intro h4)]
          unfold orL
          by_cases h5 : a.th.by_ = b.th.by_
          · rw [if_neg (by rw [cmpI_zero.2 h5]; simp), if_neg (not_not_intro h5)]
            unfold orL
            by_cases h6 : a.th.count = b.th.count
            · rw [if_neg (by rw [cmpI_zero.2 h6]; simp), if_neg (not_not_intro h6)]
              unfold orL
              by_cases h7 : a.th.secs = b.th.secs
              · rw [if_neg (by rw [cmpI_zero.2 h7]; simp)]
                simp [orL, h7]
              · rw [if_pos (fun h => h7 (cmpI_zero.1 h)), cmpI_neg, decide_eq_true_eq]
            · rw [if_pos (fun h => h6 (cmpI_zero.1 h)), if_pos h6, cmpI_neg, decide_eq_true_eq]
          · rw [if_pos (fun h => h5 (cmpI_zero.1 h)), if_pos h5, cmpI_neg, decide_eq_true_eq]
        · rw [if_pos (fun h => h4 (cmpI_zero.1 h)), if_pos h4, cmpI_neg, decide_eq_true_eq]
      · rw [if_pos (fun h => h3 (cmpA_zero.1 h)), if_pos h3, cmpA_neg h3]
    · rw [if_pos (fun h => h2 (cmpA_zero.1 h)), if_pos h2, cmpA_neg h2]
  · rw [if_pos (fun h => h1 (cmpI_zero.1 h)), if_pos h1, cmpI_neg, decide_eq_true_eq]
theorem nan_c [Gh] (x : Int) {h : Heap} {Q : Value → Heap → Prop} (hk : Q (.bool false) h) : CallT Try.prog fn_cmp_isNaN_int #[.int .i64 x] h Q := by
  apply cmp_isNaN_int_s
  unfold cmp_isNaN_int_v
  have : (x != x) = false := by simp
  first | (rw [this]; exact hk) | exact hk
theorem cmpI_c [Gh] (x y : Int) {h : Heap} {Q : Value → Heap → Prop} (hk : Q (.int .i64 (cmpI x y)) h) : CallT Try.prog fn_cmp_Compare_int #[.int .i64 x, .int .i64 y] h Q := by
  apply cmp_Compare_int_s
  unfold cmp_Compare_int_v
  refine nan_c x ⟨_, rfl, nan_c y ⟨_, rfl, ?_⟩⟩
  rw [if_neg (by decide), if_neg (by decide)]
  unfold cmpI at hk
  refine ifD (fun e => ?_) fun e => ?_
  · rw [if_pos e] at hk; exact hk
  rw [if_neg e] at hk
  refine ifD (fun e2 => ?_) fun e2 => ?_
  · rw [if_pos e2] at hk; exact hk
  · rw [if_neg e2] at hk; exact hk
def Ad.vals (a : Ad) : List Value := [.bool a.v6, .int .u64 a.hi, .int .u64 a.lo]
theorem cmpA_c [Gh] (x y : Ad) {h : Heap} {Q : Value → Heap → Prop} (hk : ∀ h', Fr (fun _ => False) h h' → Q (.int .i64 (cmpA x y)) h') :
    CallT Try.prog fn_address_Compare #[.agg #[.bool x.v6, .int .u64 x.hi, .int .u64 x.lo], .agg #[.bool y.v6, .int .u64 y.hi, .int .u64 y.lo]] h Q := by
  apply address_Compare_s
  unfold address_Compare_v
  refine al_mk (vs := x.vals) fun t2 h1 f1 e1 o2 => ?_
  refine al_mk (vs := y.vals) fun t3 h2 f2 e2 o3 => ?_
  have o2 := o2.fr0 f2
  have hk := hk h2 (f1.trans f2)
  refine (ldB_mk (o2.cells.at0 rfl) (ldI_mk (o2.cells.at rfl) (ldI_mk (o2.cells.at rfl) ?_)))
  refine (ldB_mk (o3.cells.at0 rfl) (ldI_mk (o3.cells.at rfl) (ldI_mk (o3.cells.at rfl) ?_)))
  have ee : ((x.v6 == y.v6) && ((x.hi == y.hi) && ((x.lo == y.lo) && true))) = decide (x = y) := by
    obtain ⟨a, b, c⟩ := x; obtain ⟨a', b', c'⟩ := y
    rw [Bool.eq_iff_iff]; simp only [Bool.and_eq_true, beq_iff_eq, decide_eq_true_eq, Ad.mk.injEq, and_true]
  rw [ee]
  unfold cmpA at hk
  refine ifD (fun e => ?_) fun e => ?_
  · rw [if_pos e] at hk; exact hk
  rw [if_neg e] at hk
  unfold ltA at hk
  refine ldB_mk (o2.cells.at0 rfl) (ldB_mk (o3.cells.at0 rfl) ?_)
  refine ifN (fun e2 => ?_) fun e2 => ?_
  · have e2 : x.v6 ≠ y.v6 := by simpa using e2
    rw [if_pos e2] at hk
    refine ldB_mk (o3.cells.at0 rfl) (ifB (fun e3 => ?_) fun e3 => ?_)
    · rw [if_pos e3] at hk; exact hk
    · rw [if_neg (by rw [e3]; decide)] at hk; exact hk
  have e2 : x.v6 = y.v6 := by simpa using e2
  rw [if_neg (not_not_intro e2)] at hk
  refine ldI_mk (o2.cells.at rfl) (ldI_mk (o3.cells.at rfl) ?_)
  refine ifNe (fun e3 => ?_) fun e3 => ?_
  · rw [if_pos e3] at hk
    refine ldI_mk (o2.cells.at rfl) (ldI_mk (o3.cells.at rfl) (ifD (fun e4 => ?_) fun e4 => ?_))
    · rw [if_pos (decide_eq_true e4)] at hk; exact hk
    · rw [if_neg (by simpa using e4)] at hk; exact hk
  · rw [if_neg (not_not_intro e3)] at hk
    refine ldI_mk (o2.cells.at rfl) (ldI_mk (o3.cells.at rfl) (ifD (fun e4 => ?_) fun e4 => ?_))
    · rw [if_pos (decide_eq_true e4)] at hk; exact hk
    · rw [if_neg (by simpa using e4)] at hk; exact hk
theorem before_c [Gh] (x y : Ad) {h : Heap} {Q : Value → Heap → Prop} (hk : ∀ h', Fr (fun _ => False) h h' → Q (.bool (ltA x y)) h') :
    CallT Try.prog fn_ref07_Before #[.agg #[.bool x.v6, .int .u64 x.hi, .int .u64 x.lo], .agg #[.bool y.v6, .int .u64 y.hi, .int .u64 y.lo]] h Q := by
  apply ref07_Before_s
  unfold ref07_Before_v
  refine al_mk (vs := x.vals) fun t2 h1 f1 e1 o2 => ?_
  refine al_mk (vs := y.vals) fun t3 h2 f2 e2 o3 => ?_
  have o2 := o2.fr0 f2
  have hk := hk h2 (f1.trans f2)
  unfold ltA at hk
  refine ldB_mk (o2.cells.at0 rfl) (ldB_mk (o3.cells.at0 rfl) ?_)
  refine ifN (fun e2 => ?_) fun e2 => ?_
  · have e2 : x.v6 ≠ y.v6 := by simpa using e2
    rw [if_pos e2] at hk
    exact ldB_mk (o3.cells.at0 rfl) hk
  have e2 : x.v6 = y.v6 := by simpa using e2
  rw [if_neg (not_not_intro e2)] at hk
  refine ldI_mk (o2.cells.at rfl) (ldI_mk (o3.cells.at rfl) ?_)
  refine ifNe (fun e3 => ?_) fun e3 => ?_
  · rw [if_pos e3] at hk
    exact ldI_mk (o2.cells.at rfl) (ldI_mk (o3.cells.at rfl) hk)
  · rw [if_neg (not_not_intro e3)] at hk
    exact ldI_mk (o2.cells.at rfl) (ldI_mk (o3.cells.at rfl) hk)
theorem or_c [Gh] (l : List Int) {h : Heap} {a : Addr} (o : Own h a (l.map fun n => Value.int .i64 n) T_int) (hl : l.length ≤ 1000) {Q : Value → Heap → Prop} (hk : Q (.int .i64 (orL l)) h) :
    CallT Try.prog fn_cmp_Or_int #[.slice (some a) l.length l.length] h Q := by
  apply cmp_Or_int_s
  unfold cmp_Or_int_v
  refine LoopV.mk (fun st h' => h' = h ∧ ∃ k : Nat, st = (k : Int) ∧ k ≤ l.length ∧ orL (l.drop k) = orL l) (fun st _ => l.length - st.toNat) ⟨rfl, 0, rfl, by omega, rfl⟩ ?_
  rintro - h1 ⟨rfl, k, rfl, hkl, he⟩
  unfold cmp_Or_int_l1
  refine ifD (fun hb => ?_) fun hb => ?_
  · have hk2 : k < l.length := by omega
    refine idxA_mk k rfl hk2 (nn_mk ?_)
    rw [Int.toNat_natCast, Nat.mul_one]
    refine ldI_mk (o.cells.at (by rw [List.getElem?_map, List.getElem?_eq_getElem hk2]; rfl)) ?_
    rw [List.drop_eq_getElem_cons hk2, orL] at he
    refine ifNe (fun e => ?_) fun e => ?_
    · rw [if_pos e] at he; rw [he]; exact hk
    · rw [if_neg (not_not_intro e)] at he
      rw [wr (by omega) (by omega)]
      exact ⟨⟨by trivial, k + 1, rfl, by omega, he⟩, by omega⟩
  · have e : k = l.length := by omega
    subst e
    rw [List.drop_length] at he
    rw [← he] at hk; exact hk
theorem chk3 {h : Heap} {a : Addr} {p : Bool} {q r : Int} {rest : List Value} (c : Cells h a (.bool p :: .int .u64 q :: .int .u64 r :: rest)) :
    (ldB h a fun x0 => ldI h (Addr.add a 1) .u64 fun x1 => ldI h (Addr.add a 2) .u64 fun x2 => (.agg #[.bool x0, .int .u64 x1, .int .u64 x2] : Value) = .agg #[.bool p, .int .u64 q, .int .u64 r]) :=
  ldB_mk (c.at0 rfl) (ldI_mk (c.at rfl) (ldI_mk (c.at rfl) rfl))
theorem chk4 {h : Heap} {a : Addr} {p q r s : Int} {rest : List Value} (c : Cells h a (.int .i64 p :: .int .i64 q :: .int .i64 r :: .int .i64 s :: rest)) :
    (ldI h a .i64 fun x0 => ldI h (Addr.add a 1) .i64 fun x1 => ldI h (Addr.add a 2) .i64 fun x2 => ldI h (Addr.add a 3) .i64 fun x3 => (.agg #[.int .i64 x0, .int .i64 x1, .int .i64 x2, .int .i64 x3] : Value) = .agg #[.int .i64 p, .int .i64 q, .int .i64 r, .int .i64 s]) :=
  ldI_mk (c.at0 rfl) (ldI_mk (c.at rfl) (ldI_mk (c.at rfl) (ldI_mk (c.at rfl) rfl)))
theorem compare_b1 [Gh] {h : Heap} {k2 o3 x5 y6 : Addr} {k o : Key} (ok : Own h k2 k.vals T_threshold_key) (oo : Own h o3 o.vals T_threshold_key) (ox : Own h x5 k.th.vals T_api_Threshold) (oy : Own h y6 o.th.vals T_api_Threshold) {Q : Value → Heap → Prop}
    (hk : ∀ h', Fr (fun _ => False) h h' → Q (.int .i64 (cmpK k o)) h') : threshold_key_compare_b1 k2 o3 x5 y6 Q h := by
  unfold threshold_key_compare_b1
  have rd : ∀ {h : Heap} {a : Addr} {vs : List Value} {T : TypeId} (w : Own h a vs T) (j : Nat) {n : Int} (_ : vs[j]? = some (.int .i64 n)), (ldI h (a.add j) .i64 fun x => (.int .i64 x : Value) = .int .i64 n) := fun w j _ hj => ldI_mk (w.cells.at hj) rfl
  have rd0 : ∀ {h : Heap} {a : Addr} {vs : List Value} {T : TypeId} (w : Own h a vs T) {n : Int} (_ : vs[0]? = some (.int .i64 n)), (ldI h a .i64 fun x => (.int .i64 x : Value) = .int .i64 n) := fun w _ hj => ldI_mk (w.cells.at0 hj) rfl
  refine ldI_mk (ok.cells.at0 rfl) (ldI_mk (oo.cells.at0 rfl) ?_)
  refine ldB_mk ((ok.sub 5).at0 rfl) (ldI_mk ((ok.sub 5).at rfl) (ldI_mk ((ok.sub 5).at rfl) ?_))
  refine ldB_mk ((oo.sub 5).at0 rfl) (ldI_mk ((oo.sub 5).at rfl) (ldI_mk ((oo.sub 5).at rfl) ?_))
  refine ldB_mk ((ok.sub 8).at0 rfl) (ldI_mk ((ok.sub 8).at rfl) (ldI_mk ((ok.sub 8).at rfl) ?_))
  refine ldB_mk ((oo.sub 8).at0 rfl) (ldI_mk ((oo.sub 8).at rfl) (ldI_mk ((oo.sub 8).at rfl) ?_))
  refine ldI_mk (ox.cells.at0 rfl) (ldI_mk (oy.cells.at0 rfl) ?_)
  refine ldI_mk (ox.cells.at rfl) (ldI_mk (oy.cells.at rfl) ?_)
  refine ldI_mk (ox.cells.at rfl) (ldI_mk (oy.cells.at rfl) ?_)
  refine ldI_mk (ox.cells.at rfl) (ldI_mk (oy.cells.at rfl) ?_)
  refine cmpI_c _ _ ⟨_, rfl, chk3 (ok.sub 5), chk3 (oo.sub 5), chk3 (ok.sub 8), chk3 (oo.sub 8), rd0 ox rfl, rd0 oy rfl, rd ox 1 rfl, rd oy 1 rfl, rd ox 2 rfl, rd oy 2 rfl, rd ox 3 rfl, rd oy 3 rfl, ?_⟩
  refine cmpA_c k.a o.a fun h1 f1 => ?_
  have ok1 := ok.fr0 f1
  have oo1 := oo.fr0 f1
  have ox1 := ox.fr0 f1
  have oy1 := oy.fr0 f1
  refine ⟨_, rfl, chk3 (ok1.sub 8), chk3 (oo1.sub 8), rd0 ox1 rfl, rd0 oy1 rfl, rd ox1 1 rfl, rd oy1 1 rfl, rd ox1 2 rfl, rd oy1 2 rfl, rd ox1 3 rfl, rd oy1 3 rfl, ?_⟩
  refine cmpA_c k.b o.b fun h2 f2 => ?_
  have ox2 := ox1.fr0 f2
  have oy2 := oy1.fr0 f2
  refine ⟨_, rfl, rd0 ox2 rfl, rd0 oy2 rfl, rd ox2 1 rfl, rd oy2 1 rfl, rd ox2 2 rfl, rd oy2 2 rfl, rd ox2 3 rfl, rd oy2 3 rfl, ?_⟩
  refine cmpI_c _ _ ⟨_, rfl, rd ox2 1 rfl, rd oy2 1 rfl, rd ox2 2 rfl, rd oy2 2 rfl, rd ox2 3 rfl, rd oy2 3 rfl, ?_⟩
  refine cmpI_c _ _ ⟨_, rfl, rd ox2 2 rfl, rd oy2 2 rfl, rd ox2 3 rfl, rd oy2 3 rfl, ?_⟩
  refine cmpI_c _ _ ⟨_, rfl, rd ox2 3 rfl, rd oy2 3 rfl, ?_⟩
  refine cmpI_c _ _ ⟨_, rfl, ?_⟩
  refine al_mk (vs := [cmpI k.sid o.sid, cmpA k.a o.a, cmpA k.b o.b, cmpI k.th.kind o.th.kind, cmpI k.th.by_ o.th.by_, cmpI k.th.count o.th.count, cmpI k.th.secs o.th.secs].map fun n => Value.int .i64 n) fun t h3 f3 e3 o3 => ?_
  exact or_c _ o3 (by simp) ⟨_, rfl, hk h3 ((f1.trans f2).trans f3)⟩
theorem compare_c [Gh] (k o : Key) {h : Heap} {Q : Value → Heap → Prop} (hk : ∀ h', Fr (fun _ => False) h h' → Q (.int .i64 (cmpK k o)) h') : CallT Try.prog fn_threshold_key_compare #[k.v, o.v] h Q := by
  apply threshold_key_compare_s
  unfold threshold_key_compare_v
  refine al_mk (vs := k.vals) fun t2 h1 f1 e1 o2 => ?_
  refine al_mk (vs := o.vals) fun t3 h2 f2 e2 o3 => ?_
  have o2 := o2.fr0 f2
  have f12 := f1.trans f2
  refine ldI_mk ((o2.sub 1).at0 rfl) (ldI_mk ((o2.sub 1).at rfl) (ldI_mk ((o2.sub 1).at rfl) (ldI_mk ((o2.sub 1).at rfl) ?_)))
  refine ldI_mk ((o3.sub 1).at0 rfl) (ldI_mk ((o3.sub 1).at rfl) (ldI_mk ((o3.sub 1).at rfl) (ldI_mk ((o3.sub 1).at rfl) ?_)))
  have l2 := o2.lt
  have l3 := o3.lt
  refine ⟨?_, ?_⟩
  · refine al_mk (vs := [.int .i64 0, .int .i64 0, .int .i64 0, .int .i64 0]) fun t5 h3 f3 e3 o5 => ⟨chk4 ((o2.fr0 f3).sub 1), chk4 ((o3.fr0 f3).sub 1), ?_⟩
    have l5 := o5.lt
    refine al_mk (vs := [.int .i64 0, .int .i64 0, .int .i64 0, .int .i64 0]) fun t6 h4 f4 e4 o6 => ⟨chk4 (((o2.fr0 f3).fr0 f4).sub 1), chk4 (((o3.fr0 f3).fr0 f4).sub 1), ?_⟩
    have z3 := f3.size
    have z4 := f4.size
    refine stN_own (o5.fr0 f4) (ws := k.th.vals) rfl rfl fun h5 f5 s5 o5 => ?_
    have o2 := ((o2.fr0 f3).fr0 f4).fr f5 (by omega)
    have o3 := ((o3.fr0 f3).fr0 f4).fr f5 (by omega)
    refine ⟨chk4 (o3.sub 1), ?_⟩
    refine stN_own (o6.fr f5 (by omega)) (ws := o.th.vals) rfl rfl fun h6 f6 s6 o6 => ?_
    refine compare_b1 (o2.fr f6 (by omega)) (o3.fr f6 (by omega)) (o5.fr f6 (by omega)) o6 fun h7 f7 => hk h7 ?_
    exact ((((f12.trans f3).trans f4).tr f5 fun x hx hi => by have := f12.size; omega).tr f6 fun x hx hi => by have := f12.size; omega).trans f7
  · refine al_mk (vs := [.int .i64 0, .int .i64 0, .int .i64 0, .int .i64 0]) fun t6 h3 f3 e3 o6 => ⟨chk4 ((o2.fr0 f3).sub 1), chk4 ((o3.fr0 f3).sub 1), ?_⟩
    have l6 := o6.lt
    refine al_mk (vs := [.int .i64 0, .int .i64 0, .int .i64 0, .int .i64 0]) fun t5 h4 f4 e4 o5 => ⟨chk4 (((o2.fr0 f3).fr0 f4).sub 1), chk4 (((o3.fr0 f3).fr0 f4).sub 1), ?_⟩
    have z3 := f3.size
    have z4 := f4.size
    refine stN_own o5 (ws := k.th.vals) rfl rfl fun h5 f5 s5 o5 => ?_
    have o2 := ((o2.fr0 f3).fr0 f4).fr f5 (by omega)
    have o3 := ((o3.fr0 f3).fr0 f4).fr f5 (by omega)
    refine ⟨chk4 (o3.sub 1), ?_⟩
    refine stN_own ((o6.fr0 f4).fr f5 (by omega)) (ws := o.th.vals) rfl rfl fun h6 f6 s6 o6 => ?_
    refine compare_b1 (o2.fr f6 (by omega)) (o3.fr f6 (by omega)) (o5.fr f6 (by omega)) o6 fun h7 f7 => hk h7 ?_
    exact ((((f12.trans f3).trans f4).tr f5 fun x hx hi => by have := f12.size; omega).tr f6 fun x hx hi => by have := f12.size; omega).trans f7
end Go.Proofs.Ytfcnplakgmdfiaa
