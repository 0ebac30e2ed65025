/-
  Thresholds that count, keys of alerts, their order.
-/
import Derived.Test.YtfcnplakgmdfiaaThrA
namespace Go.Proofs.Ytfcnplakgmdfiaa
set_option linter.unusedSimpArgs false
set_option linter.unusedVariables false
set_option maxRecDepth 20000
open Go
open Go.IntKind (wrap)
theorem Own.sub {h : Heap} {a : Addr} {vs : List Value} {T : TypeId} (o : Own h a vs T) (k : Nat) : Cells h (a.add k) (vs.drop k) := by
  intro j hj
  have e : (a.add k).add j = a.add (k + j) := by rw [o.mk_eq, add_mk, add_mk, add_mk, Nat.add_assoc]
  rw [e]
  refine o.cells.at ?_
  rw [← List.getElem?_drop, List.getElem?_eq_getElem hj]
theorem stN_off {b k : Nat} {K : Heap → Prop} : ∀ (ws : List Value) (i : Nat) (h : Heap), stN h ⟨b, 0, none⟩ ws (k + i) K → stN h ⟨b, k, none⟩ ws i K
  | [], _, _, hk => hk
  | v :: ws, i, h, hk => by
    unfold stN at hk ⊢
    rw [add_mk] at hk ⊢
    rw [Nat.zero_add] at hk
    obtain ⟨h1, h2, h3, h4⟩ := hk
    exact ⟨h1, h2, h3, stN_off ws (i + 1) _ h4⟩
theorem splice_mid (vs ws : List Value) (k : Nat) (hk : k + ws.length ≤ vs.length) : splice vs.toArray k ws = (vs.take k ++ ws ++ vs.drop (k + ws.length)).toArray := by
  apply Array.ext_getElem?
  intro i
  rw [splice_get ws _ k (by simpa using hk), List.getElem?_toArray, List.getElem?_toArray]
  have hlk : (vs.take k).length = k := by rw [List.length_take]; omega
  split
  · rename_i hi
    rw [List.append_assoc, List.getElem?_append_right (by omega), hlk, List.getElem?_append_left (by omega)]
  · rename_i hi
    by_cases h : i < k
    · rw [List.append_assoc, List.getElem?_append_left (by omega), List.getElem?_take, if_pos h]
    · rw [List.getElem?_append_right (by rw [List.length_append, hlk]; omega), List.length_append, hlk, List.getElem?_drop]
      congr 1; omega
/-- A part of an owned block is written. -/
theorem stN_sub {h : Heap} {a : Addr} {vs ws : List Value} {T : TypeId} (o : Own h a vs T) (k : Nat) (hk : k + ws.length ≤ vs.length) (hv : ws.all cellV = true) {K : Heap → Prop}
    (hK : ∀ h', Fr (fun b => b = a.block) h h' → h'.size = h.size → Own h' a (vs.take k ++ ws ++ vs.drop (k + ws.length)) T → K h') : stN h (a.add k) ws 0 K := by
  have e : a.add k = ⟨a.block, k, none⟩ := by rw [o.mk_eq, add_mk, Nat.zero_add]
  rw [e]
  refine stN_off ws 0 h ?_
  refine stN_blk ws k _ h o.blk (all_cellV hv) (by simpa using hk) ?_
  rw [splice_mid vs ws k hk]
  exact hK _ (Fr.set _ _ rfl) (by simp) ⟨o.off, o.spot, get_set o.blk⟩
def Th.vals (t : Th) : List Value := [.int .i64 t.kind, .int .i64 t.by_, .int .i64 t.count, .int .i64 t.secs]
def countsB (t : Th) : Bool := decide (1 ≤ t.kind ∧ t.kind ≤ 3 ∧ 1 ≤ t.by_ ∧ t.by_ ≤ 3 ∧ 1 ≤ t.count ∧ t.count ≤ 65536 ∧ 1 ≤ t.secs ∧ t.secs ≤ 86400)
theorem by_c [Gh] (n : Int) {h : Heap} {Q : Value → Heap → Prop} (hk : Q (.bool (decide (1 ≤ n ∧ n ≤ 3))) h) : CallT Try.prog fn_threshold_by #[.int .i64 n] h Q := by
  apply threshold_by_s
  unfold threshold_by_v
  refine ifD (fun e => ?_) fun e => ?_
  · have : decide (n ≤ 3) = decide (1 ≤ n ∧ n ≤ 3) := by rw [Bool.eq_iff_iff]; simp only [decide_eq_true_eq]; omega
    rw [this]; exact hk
  · rw [decide_eq_false (by omega)] at hk; exact hk
theorem counts_c [Gh] (t : Th) {h : Heap} {Q : Value → Heap → Prop} (hk : ∀ h', Fr (fun _ => False) h h' → Q (.bool (countsB t)) h') :
    CallT Try.prog fn_threshold_counts #[.agg #[.int .i64 t.kind, .int .i64 t.by_, .int .i64 t.count, .int .i64 t.secs]] h Q := by
  apply threshold_counts_s
  unfold threshold_counts_v
  refine al_mk (vs := t.vals) fun a h1 f1 _ o => ?_
  have hk := hk h1 f1
  unfold countsB at hk
  have no : ¬ (1 ≤ t.kind ∧ t.kind ≤ 3 ∧ 1 ≤ t.by_ ∧ t.by_ ≤ 3 ∧ 1 ≤ t.count ∧ t.count ≤ 65536 ∧ 1 ≤ t.secs ∧ t.secs ≤ 86400) → Q (.bool false) h1 := fun hn => by rw [decide_eq_false hn] at hk; exact hk
  refine ldI_mk (o.cells.at0 rfl) (ifD (fun e1 => ?_) fun e1 => no (by omega))
  refine ldI_mk (o.cells.at0 rfl) (ifD (fun e2 => ?_) fun e2 => no (by omega))
  refine ldI_mk (o.cells.at rfl) (by_c _ ⟨_, rfl, ifD (fun e3 => ?_) fun e3 => no (by omega)⟩)
  refine ldI_mk (o.cells.at rfl) (ifD (fun e4 => ?_) fun e4 => no (by omega))
  refine ldI_mk (o.cells.at rfl) (ifD (fun e5 => ?_) fun e5 => no (by omega))
  refine ldI_mk (o.cells.at rfl) (ifD (fun e6 => ?_) fun e6 => no (by omega))
  refine ldI_mk (o.cells.at rfl) ?_
  have : decide (t.secs ≤ 86400) = decide (1 ≤ t.kind ∧ t.kind ≤ 3 ∧ 1 ≤ t.by_ ∧ t.by_ ≤ 3 ∧ 1 ≤ t.count ∧ t.count ≤ 65536 ∧ 1 ≤ t.secs ∧ t.secs ≤ 86400) := by rw [Bool.eq_iff_iff]; simp only [decide_eq_true_eq]; omega
  rw [this]; exact hk
theorem rCounts_c [Gh] (t : Th) {h : Heap} {Q : Value → Heap → Prop} (hk : ∀ h', Fr (fun _ => False) h h' → Q (.bool (countsB t)) h') :
    CallT Try.prog fn_ref51_Counts #[.agg #[.int .i64 t.kind, .int .i64 t.by_, .int .i64 t.count, .int .i64 t.secs]] h Q := by
  apply ref51_Counts_s
  unfold ref51_Counts_v
  refine al_mk (vs := t.vals) fun a h1 f1 _ o => ?_
  have hk := hk h1 f1
  unfold countsB at hk
  have no : ¬ (1 ≤ t.kind ∧ t.kind ≤ 3 ∧ 1 ≤ t.by_ ∧ t.by_ ≤ 3 ∧ 1 ≤ t.count ∧ t.count ≤ 65536 ∧ 1 ≤ t.secs ∧ t.secs ≤ 86400) → Q (.bool false) h1 := fun hn => by rw [decide_eq_false hn] at hk; exact hk
  refine ldI_mk (o.cells.at0 rfl) (ifD (fun e1 => ?_) fun e1 => no (by omega))
  refine ldI_mk (o.cells.at0 rfl) (ifD (fun e2 => ?_) fun e2 => no (by omega))
  refine ldI_mk (o.cells.at rfl) (ifD (fun e3 => ?_) fun e3 => no (by omega))
  refine ldI_mk (o.cells.at rfl) (ifD (fun e4 => ?_) fun e4 => no (by omega))
  refine ldI_mk (o.cells.at rfl) (ifD (fun e5 => ?_) fun e5 => no (by omega))
  refine ldI_mk (o.cells.at rfl) (ifD (fun e6 => ?_) fun e6 => no (by omega))
  refine ldI_mk (o.cells.at rfl) (ifD (fun e7 => ?_) fun e7 => no (by omega))
  refine ldI_mk (o.cells.at rfl) ?_
  have : decide (t.secs ≤ 86400) = decide (1 ≤ t.kind ∧ t.kind ≤ 3 ∧ 1 ≤ t.by_ ∧ t.by_ ≤ 3 ∧ 1 ≤ t.count ∧ t.count ≤ 65536 ∧ 1 ≤ t.secs ∧ t.secs ≤ 86400) := by rw [Bool.eq_iff_iff]; simp only [decide_eq_true_eq]; omega
  rw [this]; exact hk
/-! ### Keys -/
structure Fl where
  proto : Int
  src : Ad
  dst : Ad
  sport : Int
  dport : Int
def Fl.vals (f : Fl) : List Value := [.int .i64 f.proto, .bool f.src.v6, .int .u64 f.src.hi, .int .u64 f.src.lo, .bool f.dst.v6, .int .u64 f.dst.hi, .int .u64 f.dst.lo, .int .i64 f.sport, .int .i64 f.dport]
def noA : Ad := ⟨false, 0, 0⟩
def keyL (sid : Int) (t : Th) (f : Fl) : Key := ⟨sid, t, if t.by_ = 2 then noA else f.src, if t.by_ = 1 then noA else f.dst⟩
theorem keyOf_b1 [Gh] {h : Heap} {t6 k7 : Addr} {zs : List Value} {k : Key} (o6 : Own h t6 zs T_threshold_key) (hz : zs.length = 11) (o7 : Own h k7 k.vals T_threshold_key) (hne : t6.block ≠ k7.block) {Q : Value → Heap → Prop}
    (hk : ∀ h', Fr (fun b => b = t6.block) h h' → Q k.v h') : threshold_keyOf_b1 t6 k7 Q h := by
  unfold threshold_keyOf_b1
  refine (ldI_mk (o7.cells.at0 rfl) (ldI_mk (o7.cells.at rfl) (ldI_mk (o7.cells.at rfl) (ldI_mk (o7.cells.at rfl) (ldI_mk (o7.cells.at rfl) (ldB_mk (o7.cells.at rfl) (ldI_mk (o7.cells.at rfl) (ldI_mk (o7.cells.at rfl) (ldB_mk (o7.cells.at rfl) (ldI_mk (o7.cells.at rfl) (ldI_mk (o7.cells.at rfl) ?_)))))))))))
  refine stN_own o6 (ws := k.vals) (by rw [hz]; rfl) rfl fun h1 f1 s1 o1 => ?_
  refine (ldI_mk (o1.cells.at0 rfl) (ldI_mk (o1.cells.at rfl) (ldI_mk (o1.cells.at rfl) (ldI_mk (o1.cells.at rfl) (ldI_mk (o1.cells.at rfl) (ldB_mk (o1.cells.at rfl) (ldI_mk (o1.cells.at rfl) (ldI_mk (o1.cells.at rfl) (ldB_mk (o1.cells.at rfl) (ldI_mk (o1.cells.at rfl) (ldI_mk (o1.cells.at rfl) ?_)))))))))))
  exact hk h1 f1
theorem keyOf_c [Gh] (sid : Int) (t : Th) (f : Fl) {h : Heap} {Q : Value → Heap → Prop} (hk : ∀ h', Fr (fun _ => False) h h' → Q (keyL sid t f).v h') :
    CallT Try.prog fn_threshold_keyOf #[.int .i64 sid, .agg #[.int .i64 t.kind, .int .i64 t.by_, .int .i64 t.count, .int .i64 t.secs], .agg #[.int .i64 f.proto, .bool f.src.v6, .int .u64 f.src.hi, .int .u64 f.src.lo, .bool f.dst.v6, .int .u64 f.dst.hi, .int .u64 f.dst.lo, .int .i64 f.sport, .int .i64 f.dport]] h Q := by
  apply threshold_keyOf_s
  unfold threshold_keyOf_v
  refine al_mk (vs := t.vals) fun t4 h1 f1 e1 o4 => ?_
  refine al_mk (vs := f.vals) fun t5 h2 f2 e2 o5 => ?_
  refine al_mk (vs := (Key.mk 0 ⟨0, 0, 0, 0⟩ noA noA).vals) fun t6 h3 f3 e3 o6 => ?_
  have l4 := o4.lt
  have l5 := o5.lt
  have l6 := o6.lt
  have o4 := (o4.fr0 f2).fr0 f3
  have o5 := o5.fr0 f3
  refine (ldI_mk (o4.cells.at0 rfl) (ldI_mk (o4.cells.at rfl) (ldI_mk (o4.cells.at rfl) (ldI_mk (o4.cells.at rfl) ?_))))
  refine cp_mk (vs := (Key.mk sid t noA noA).vals) rfl rfl fun t7 h5 f5 e5 o7 => ?_
  have z1 := f1.size
  have z2 := f2.size
  have z3 := f3.size
  have l7 := o7.lt
  have f05 := ((f1.trans f2).trans f3).trans f5
  have o4 := o4.fr0 f5
  have o5 := o5.fr0 f5
  have o6 := o6.fr0 f5
  have fin : ∀ (k : Key) (h6 : Heap), Fr (fun b => b = t7.block) h5 h6 → h6.size = h5.size → Own h6 t7 k.vals T_threshold_key → k = keyL sid t f → threshold_keyOf_b1 t6 t7 Q h6 := by
    rintro k h6 f6 s6 o7 rfl
    refine keyOf_b1 (o6.fr f6 (by omega)) rfl o7 (by omega) fun h7 f7 => hk h7 ?_
    exact (f05.tr f6 fun x hx hi => by omega).tr f7 fun x hx hi => by omega
  unfold keyL at fin
  refine ldI_mk (o4.cells.at rfl) ?_
  refine ifE (fun e => ?_) fun e => ?_
  · refine ldB_mk ((o5.sub 1).at0 rfl) (ldI_mk ((o5.sub 1).at rfl) (ldI_mk ((o5.sub 1).at rfl) ?_))
    refine stN_sub o7 5 (by simp [Key.vals]) rfl fun h6 f6 s6 o7 => ?_
    exact fin ⟨sid, t, f.src, noA⟩ h6 f6 s6 o7 (by rw [if_neg (by omega), if_pos e])
  refine ifE (fun e2 => ?_) fun e2 => ?_
  · refine ldB_mk ((o5.sub 4).at0 rfl) (ldI_mk ((o5.sub 4).at rfl) (ldI_mk ((o5.sub 4).at rfl) ?_))
    refine stN_sub o7 8 (by simp [Key.vals]) rfl fun h6 f6 s6 o7 => ?_
    exact fin ⟨sid, t, noA, f.dst⟩ h6 f6 s6 o7 (by rw [if_pos e2, if_neg (by omega)])
  refine ldB_mk ((o5.sub 1).at0 rfl) (ldI_mk ((o5.sub 1).at rfl) (ldI_mk ((o5.sub 1).at rfl) ?_))
  refine ldB_mk ((o5.sub 4).at0 rfl) (ldI_mk ((o5.sub 4).at rfl) (ldI_mk ((o5.sub 4).at rfl) ?_))
  refine stN_sub o7 5 (by simp [Key.vals]) rfl fun h6 f6 s6 o7 => ⟨?_, ?_⟩
  · have o5 := o5.fr f6 (by omega)
    exact ldB_mk ((o5.sub 4).at0 rfl) (ldI_mk ((o5.sub 4).at rfl) (ldI_mk ((o5.sub 4).at rfl) rfl))
  · refine stN_sub o7 8 (by simp [Key.vals]) rfl fun h8 f8 s8 o8 => ?_
    exact fin ⟨sid, t, f.src, f.dst⟩ h8 (f6.trans f8) (by omega) o8 (by rw [if_neg e2, if_neg e])
theorem rKeyOf_c [Gh] (sid : Int) (t : Th) (f : Fl) (hb : 1 ≤ t.by_ ∧ t.by_ ≤ 3) {h : Heap} {Q : Value → Heap → Prop} (hk : ∀ h', Fr (fun _ => False) h h' → Q (keyL sid t f).v h') :
    CallT Try.prog fn_ref51_KeyOf #[.int .i64 sid, .agg #[.int .i64 t.kind, .int .i64 t.by_, .int .i64 t.count, .int .i64 t.secs], .agg #[.int .i64 f.proto, .bool f.src.v6, .int .u64 f.src.hi, .int .u64 f.src.lo, .bool f.dst.v6, .int .u64 f.dst.hi, .int .u64 f.dst.lo, .int .i64 f.sport, .int .i64 f.dport]] h Q := by
  apply ref51_KeyOf_s
  unfold ref51_KeyOf_v
  refine al_mk (vs := t.vals) fun t4 h1 f1 e1 o4 => ?_
  refine al_mk (vs := f.vals) fun t5 h2 f2 e2 o5 => ?_
  refine al_mk (vs := (Key.mk 0 ⟨0, 0, 0, 0⟩ noA noA).vals) fun t6 h3 f3 e3 o6 => ?_
  have l4 := o4.lt
  have l5 := o5.lt
  have l6 := o6.lt
  have o4 := (o4.fr0 f2).fr0 f3
  have o5 := o5.fr0 f3
  refine (ldI_mk (o4.cells.at0 rfl) (ldI_mk (o4.cells.at rfl) (ldI_mk (o4.cells.at rfl) (ldI_mk (o4.cells.at rfl) ?_))))
  refine ldB_mk ((o5.sub 1).at0 rfl) (ldI_mk ((o5.sub 1).at rfl) (ldI_mk ((o5.sub 1).at rfl) ?_))
  refine ldB_mk ((o5.sub 4).at0 rfl) (ldI_mk ((o5.sub 4).at rfl) (ldI_mk ((o5.sub 4).at rfl) ?_))
  refine cp_mk (vs := (Key.mk sid t f.src f.dst).vals) rfl rfl fun t7 h5 f5 e5 o7 => ?_
  have z1 := f1.size
  have z2 := f2.size
  have z3 := f3.size
  have l7 := o7.lt
  have f05 := ((f1.trans f2).trans f3).trans f5
  have o4 := o4.fr0 f5
  have o6 := o6.fr0 f5
  unfold keyL at hk
  have b2 : ∀ (k : Key) (h6 : Heap), Fr (fun b => b = t7.block) h5 h6 → h6.size = h5.size → Own h6 t7 k.vals T_intrusionref51_Key → k = keyL sid t f → ref51_KeyOf_b2 t6 t7 Q h6 := by
    rintro k h6 f6 s6 o7 rfl
    have o6 := o6.fr f6 (by omega)
    unfold ref51_KeyOf_b2
    refine (ldI_mk (o7.cells.at0 rfl) (ldI_mk (o7.cells.at rfl) (ldI_mk (o7.cells.at rfl) (ldI_mk (o7.cells.at rfl) (ldI_mk (o7.cells.at rfl) (ldB_mk (o7.cells.at rfl) (ldI_mk (o7.cells.at rfl) (ldI_mk (o7.cells.at rfl) (ldB_mk (o7.cells.at rfl) (ldI_mk (o7.cells.at rfl) (ldI_mk (o7.cells.at rfl) ?_)))))))))))
    refine stN_own o6 (ws := (keyL sid t f).vals) rfl rfl fun h7 f7 s7 o8 => ?_
    refine (ldI_mk (o8.cells.at0 rfl) (ldI_mk (o8.cells.at rfl) (ldI_mk (o8.cells.at rfl) (ldI_mk (o8.cells.at rfl) (ldI_mk (o8.cells.at rfl) (ldB_mk (o8.cells.at rfl) (ldI_mk (o8.cells.at rfl) (ldI_mk (o8.cells.at rfl) (ldB_mk (o8.cells.at rfl) (ldI_mk (o8.cells.at rfl) (ldI_mk (o8.cells.at rfl) ?_)))))))))))
    exact hk h7 ((f05.tr f6 fun x hx hi => by omega).tr f7 fun x hx hi => by omega)
  unfold keyL at b2
  have b1 : ∀ (dst : Ad) (h6 : Heap), Fr (fun b => b = t7.block) h5 h6 → h6.size = h5.size → Own h6 t7 (Key.mk sid t f.src dst).vals T_intrusionref51_Key → dst = (if t.by_ = 1 then noA else f.dst) → ref51_KeyOf_b1 t4 t6 t7 Q h6 := by
    intro dst h6 f6 s6 o7 hd
    unfold ref51_KeyOf_b1
    have o4 := o4.fr f6 (by omega)
    refine ldI_mk (o4.cells.at rfl) ?_
    refine ifE (fun e => ?_) fun e => ?_
    · refine stN_sub o7 5 (by simp [Key.vals]) rfl fun h8 f8 s8 o8 => ?_
      exact b2 ⟨sid, t, noA, dst⟩ h8 (f6.trans f8) (by omega) o8 (by rw [if_pos e, hd])
    · exact b2 _ h6 f6 s6 o7 (by rw [if_neg e, hd])
  refine ldI_mk (o4.cells.at rfl) ?_
  refine ifE (fun e => ?_) fun e => ?_
  · refine stN_sub o7 8 (by simp [Key.vals]) rfl fun h8 f8 s8 o8 => ?_
    exact b1 noA h8 f8 s8 o8 (by rw [if_pos e])
  · exact b1 _ h5 (Fr.refl _ _) rfl o7 (by rw [if_neg e])
end Go.Proofs.Ytfcnplakgmdfiaa
