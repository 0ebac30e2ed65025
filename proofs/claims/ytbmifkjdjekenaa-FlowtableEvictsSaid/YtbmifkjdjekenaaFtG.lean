/-
  Expire and New of the program.
-/
import Derived.Test.YtbmifkjdjekenaaFtF
namespace Go.Proofs.Ytbmifkjdjekenaa
set_option linter.unusedSimpArgs false
set_option linter.unusedVariables false
set_option maxRecDepth 20000
open Go
open Go.IntKind (wrap)
attribute [local irreducible] Addr.add stN st1 idxA idxS alV sliceStr LoopV
def leftL (st : St) (at_ : Int) (i : Nat) : List FEn := (st.L.take i).filter (fun e => !oldB st at_ e) ++ st.L.drop i
def goneL (st : St) (at_ : Int) (i : Nat) : List Int := ((st.L.take i).filter (oldB st at_)).map (·.id)
theorem left_step {st : St} (w : Wf st) (at_ : Int) {i : Nat} (hi : i < st.L.length) : (oldB st at_ st.L[i] = true → without (leftL st at_ i) st.L[i].id = leftL st at_ (i + 1) ∧ goneL st at_ (i + 1) = goneL st at_ i ++ [st.L[i].id]) ∧
    (oldB st at_ st.L[i] = false → leftL st at_ (i + 1) = leftL st at_ i ∧ goneL st at_ (i + 1) = goneL st at_ i) := by
  have ht : st.L.take (i + 1) = st.L.take i ++ [st.L[i]] := by rw [List.take_append_getElem]
  have hd : st.L.drop i = st.L[i] :: st.L.drop (i + 1) := List.drop_eq_getElem_cons hi
  have nd := w.nd
  rw [← List.take_append_drop i st.L, hd, List.map_append, List.map_cons, List.nodup_append, List.nodup_cons] at nd
  unfold leftL goneL
  constructor
  · intro ho
    rw [ht, List.filter_append, List.filter_append, hd]
    constructor
    · unfold without
      rw [List.filter_append, List.filter_cons]
      have e1 : (st.L.take i).filter (fun e => !oldB st at_ e) = ((st.L.take i).filter (fun e => !oldB st at_ e)).filter fun e => decide (e.id ≠ st.L[i].id) := by
        symm; rw [List.filter_eq_self]; intro e he
        exact decide_eq_true fun h => nd.2.2 _ (List.mem_map_of_mem (List.mem_filter.1 he).1) st.L[i].id (by simp) h
      have e2 : (st.L.drop (i + 1)).filter (fun e => decide (e.id ≠ st.L[i].id)) = st.L.drop (i + 1) := by
        rw [List.filter_eq_self]; intro e he
        exact decide_eq_true fun h => nd.2.1.1 (h ▸ List.mem_map_of_mem he)
      rw [← e1, e2]
      simp [ho]
    · simp [ho]
  · intro ho
    rw [ht, List.filter_append, List.filter_append, hd]
    simp [ho]
theorem expire_c [Gh] {ok : Nat → Prop} {h : Heap} {t : Addr} {r1 r2 : Nat} {st : St} {S : List PE} (R : TabF ok h t r1 r2 st S) (w : Wf st) (at_ : Int) {Q : Value → Heap → Prop}
    (hk : ∀ p cap h' S', Fr ok h h' → TabF ok h' t r1 r2 (expireS st at_).2 S' → Row 1 intV h' p cap (expireS st at_).1 → (∀ b, InA p b → h.size ≤ b) → Q (.slice p (expireS st at_).1.length cap) h') :
    CallT Try.prog fn_flowtable_Table_Expire #[.pointer (some t), .int .i64 at_] h Q := by
  apply flowtable_Table_Expire_s
  unfold flowtable_Table_Expire_v
  refine ifNS ?_
  unfold expireS at hk
  refine late_c R at_ ⟨_, rfl, ?_⟩
  refine ifB (fun e => ?_) fun e => ?_
  · rw [if_pos e] at hk; exact hk none 0 h S (Fr.refl _ _) R Row.nil (fun b hb => (notInA hb).elim)
  rw [if_neg (by simp [e])] at hk
  have ht := lateB_time w e
  have hto := w.timeout
  have lr1 := R.m1.lt
  have lr2 := R.m2.lt
  have ltt := R.own.lt
  refine nn_mk (st1_own R.own 2 (by simp) rfl fun h1 f1 s1 o1 => ?_)
  have w1 : Wf { st with time := at_ } := ⟨w.most, w.timeout, ht, w.used, w.asc, w.ids, w.pairs, w.len⟩
  have R1 : TabF ok h1 t r1 r2 { st with time := at_ } S :=
    ⟨o1, R.m1.fr f1 R.tr.1, R.m2.fr f1 R.tr.2, fun c hc => (R.cts c hc).fr f1 (R.cp c hc).1, R.r12, R.tr, R.okt, R.okr, R.cp, R.nd, R.perm⟩
  refine ids_c R1 w1 fun p cap h2 f2 Rp hp => ⟨_, _, _, rfl, ?_⟩
  have z2 := f2.size
  have hl := w.len64
  have f02 : Fr ok h h2 := (f1.mono fun b hb => hb ▸ R.okt).trans (f2.mono fun _ h => h.elim)
  refine LoopV.mk (fun s h' => ∃ (i : Nat) (S' : List PE), s.2.2.2 = (i : Int) ∧ i ≤ st.L.length ∧ s.2.1 = (goneL st at_ i).length ∧ Fr ok h h' ∧ TabF ok h' t r1 r2 { st with time := at_, L := leftL st at_ i } S' ∧ Row 1 intV h' p cap (st.L.map (·.id)) ∧ Row 1 intV h' s.1 s.2.2.1 (goneL st at_ i) ∧ (∀ b, InA s.1 b → h.size ≤ b ∧ ¬ InA p b ∧ ∀ c ∈ S', c.p.block ≠ b) ∧ (∀ c ∈ S', c ∈ S)) (fun s _ => st.L.length - s.2.2.2.toNat)
    ⟨0, S, rfl, by omega, rfl, f02, R1.fr0 f2, Rp, Row.nil, (fun b hb => (notInA hb).elim), fun c h => h⟩ ?_
  rintro ⟨a, n, c, j⟩ h3 ⟨i, S', hj, hi, hn, f3, R3, Rp3, Ra, ha, hsub⟩
  dsimp only at hj hn Ra ha
  subst hj hn
  unfold flowtable_Table_Expire_l1
  dsimp only
  have hlm : (st.L.map (·.id)).length = st.L.length := List.length_map ..
  have hgl : (goneL st at_ i).length ≤ 64 := by
    unfold goneL; rw [List.length_map]; exact Nat.le_trans (List.length_filter_le ..) (by rw [List.length_take]; omega)
  refine ifD (fun e1 => ?_) fun e1 => ?_
  · have hlt : i < st.L.length := by omega
    have hlt' : i < (st.L.map (·.id)).length := by simpa using hlt
    obtain ⟨s1, s2⟩ := left_step w at_ hlt
    have hmem : st.L[i] ∈ leftL st at_ i := by unfold leftL; rw [List.drop_eq_getElem_cons hlt]; exact List.mem_append_right _ (List.mem_cons_self ..)
    obtain ⟨cx, hcx, hce⟩ := R3.mem.1 hmem
    have hid : (st.L.map (·.id))[i] = cx.id := by rw [List.getElem_map, ← hce]; rfl
    have hid2 : st.L[i].id = cx.id := by rw [← hce]; rfl
    have hlast : oldB st at_ st.L[i] = decide (cx.last ≤ at_ - st.timeout) := by rw [← hce]; rfl
    rw [hid2] at s1
    refine Rp3.idx intV_len (by omega) i rfl hlt' fun ad cd => ?_
    rw [hid] at cd
    rw [Int.toNat_natCast]
    refine ldI_mk (cd.at0 rfl) ?_
    have ct := R3.own.cells
    repeat (first | (first | refine ldI_mk (by first | exact ct.at rfl | exact ct.at0 rfl) ?_ | refine ldB_mk (by first | exact ct.at rfl | exact ct.at0 rfl) ?_ | refine ldL_mk (by first | exact ct.at rfl | exact ct.at0 rfl) ?_ | refine ldP_mk (by first | exact ct.at rfl | exact ct.at0 rfl) ?_ | refine ldS_mk (by first | exact ct.at rfl | exact ct.at0 rfl) ?_ | refine ldM_mk (by first | exact ct.at rfl | exact ct.at0 rfl) ?_) | refine nn_mk ?_ | refine And.intro (by (repeat (first | refine ldI_mk (by first | exact ct.at rfl | exact ct.at0 rfl) ?_ | refine ldB_mk (by first | exact ct.at rfl | exact ct.at0 rfl) ?_ | refine ldL_mk (by first | exact ct.at rfl | exact ct.at0 rfl) ?_ | refine ldP_mk (by first | exact ct.at rfl | exact ct.at0 rfl) ?_ | refine ldS_mk (by first | exact ct.at rfl | exact ct.at0 rfl) ?_ | refine ldM_mk (by first | exact ct.at rfl | exact ct.at0 rfl) ?_)); exact rfl) ?_ | refine ifNS ?_ | refine And.intro (by decide) ?_)
    refine look_mk idT Try.underlying56 zeroP R3.m1 cx.id false ?_
    rw [R3.get hcx]
    refine ⟨_, rfl, ?_⟩
    have cc : Cells h3 cx.p cx.vals := (R3.cts cx hcx).cells
    repeat (first | (first | refine ldI_mk (by first | exact ct.at rfl | exact ct.at0 rfl | exact cc.at rfl | exact cc.at0 rfl) ?_ | refine ldB_mk (by first | exact ct.at rfl | exact ct.at0 rfl | exact cc.at rfl | exact cc.at0 rfl) ?_ | refine ldL_mk (by first | exact ct.at rfl | exact ct.at0 rfl | exact cc.at rfl | exact cc.at0 rfl) ?_ | refine ldP_mk (by first | exact ct.at rfl | exact ct.at0 rfl | exact cc.at rfl | exact cc.at0 rfl) ?_ | refine ldS_mk (by first | exact ct.at rfl | exact ct.at0 rfl | exact cc.at rfl | exact cc.at0 rfl) ?_ | refine ldM_mk (by first | exact ct.at rfl | exact ct.at0 rfl | exact cc.at rfl | exact cc.at0 rfl) ?_) | refine nn_mk ?_ | refine And.intro (by (repeat (first | refine ldI_mk (by first | exact ct.at rfl | exact ct.at0 rfl | exact cc.at rfl | exact cc.at0 rfl) ?_ | refine ldB_mk (by first | exact ct.at rfl | exact ct.at0 rfl | exact cc.at rfl | exact cc.at0 rfl) ?_ | refine ldL_mk (by first | exact ct.at rfl | exact ct.at0 rfl | exact cc.at rfl | exact cc.at0 rfl) ?_ | refine ldP_mk (by first | exact ct.at rfl | exact ct.at0 rfl | exact cc.at rfl | exact cc.at0 rfl) ?_ | refine ldS_mk (by first | exact ct.at rfl | exact ct.at0 rfl | exact cc.at rfl | exact cc.at0 rfl) ?_ | refine ldM_mk (by first | exact ct.at rfl | exact ct.at0 rfl | exact cc.at rfl | exact cc.at0 rfl) ?_)); exact rfl) ?_ | refine ifNS ?_ | refine And.intro (by decide) ?_)
    rw [wr (x := at_ - st.timeout) (by omega) (by omega), wr (x := (i : Int) + 1) (by omega) (by omega)]
    refine ifD (fun e2 => ?_) fun e2 => ?_
    · obtain ⟨t1, t2⟩ := s1 (by rw [hlast]; exact decide_eq_true e2)
      refine drop_c R3 hcx fun h4 f4 R4 => ⟨rfl, ?_⟩
      rw [show without (St.L { st with time := at_, L := leftL st at_ i }) cx.id = leftL st at_ (i + 1) from t1] at R4
      refine al_mk (vs := intV cx.id) fun bq h5 f5 e5 o5 => ?_
      have z3 := f3.size
      have z4 := f4.size
      have Ra5 := (Ra.fr f4 fun b hb h => by have := (ha b hb).1; omega).fr0 f5
      refine appI Ra5 o5 (by omega) fun p' c' h6 R6 f6 hn6 => ⟨_, _, _, rfl, ?_⟩
      rw [← t2] at R6 ⊢
      have z5 := f5.size
      have hcs : ∀ d ∈ S'.filter (fun d => decide (d.id ≠ cx.id)), d ∈ S' := fun d hd => (List.mem_filter.1 hd).1
      refine ⟨⟨i + 1, _, rfl, hlt, rfl, ?_, ?_, ?_, R6, fun b hb => ?_, fun d hd => hsub d (hcs d hd)⟩, by omega⟩
      · exact ((f3.trans (f4.mono fun b hb => by rcases hb with rfl | rfl; exact R.okr.1; exact R.okr.2)).trans (f5.mono fun _ h => h.elim)).tr f6 fun b hb hi => by have := (ha b hi).1; omega
      · have R5 := R4.fr0 f5
        exact { R5 with
          own := R5.own.fr f6 fun h => by have := (ha _ h).1; omega
          m1 := R5.m1.fr f6 fun h => by have := (ha _ h).1; omega
          m2 := R5.m2.fr f6 fun h => by have := (ha _ h).1; omega
          cts := fun d hd => (R5.cts d hd).fr f6 fun h => (ha _ h).2.2 d (hcs d hd) rfl }
      · exact ((Rp3.fr f4 fun b hb h => by have := hp b hb; have := f1.size; omega).fr0 f5).fr f6 fun b hb h => (ha b h).2.1 hb
      · rcases hn6 b hb with hb | hb
        · exact ⟨(ha b hb).1, (ha b hb).2.1, fun d hd => (ha b hb).2.2 d (hcs d hd)⟩
        · refine ⟨by omega, fun h => by have := Rp3.lt h; omega, fun d hd => by have := (R3.cts d (hcs d hd)).lt; omega⟩
    · obtain ⟨t1, t2⟩ := s2 (by rw [hlast]; exact decide_eq_false e2)
      rw [← t2] at Ra ⊢
      rw [← t1] at R3
      exact ⟨⟨i + 1, S', rfl, hlt, rfl, f3, R3, Rp3, Ra, ha, hsub⟩, by omega⟩
  · have hfull : st.L.take i = st.L := List.take_of_length_le (by omega)
    have hd : st.L.drop i = [] := List.drop_eq_nil_of_le (by omega)
    have eL : leftL st at_ i = st.L.filter fun e => !oldB st at_ e := by unfold leftL; rw [hfull, hd, List.append_nil]
    have eG : goneL st at_ i = (st.L.filter (oldB st at_)).map (·.id) := by unfold goneL; rw [hfull]
    rw [eL] at R3
    rw [eG] at Ra ⊢
    exact hk a c h3 S' f3 R3 Ra fun b hb => (ha b hb).1
def boundI (n most : Int) : Int := if n < 1 then 1 else if n > most then most else n
theorem bound_c [Gh] (n most : Int) (hm : 1 ≤ most) {h : Heap} {Q : Value → Heap → Prop} (hk : Q (.int .i64 (boundI n most)) h) : CallT Try.prog fn_flowtable_bound #[.int .i64 n, .int .i64 most] h Q := by
  apply flowtable_bound_s
  unfold flowtable_bound_v
  refine Qeq hk ?_
  congr 1
  unfold boundI
  split <;> split <;> (try split) <;> (try split) <;> omega
def newS (most timeout : Int) : St := ⟨boundI most 64, boundI timeout 1099511627776, 0, 0, []⟩
theorem newS_wf (most timeout : Int) : Wf (newS most timeout) := by
  have b1 : ∀ n m : Int, 1 ≤ m → 1 ≤ boundI n m ∧ boundI n m ≤ m := fun n m h => by unfold boundI; split <;> (try split) <;> omega
  have h1 := b1 most 64 (by omega)
  have h2 := b1 timeout 1099511627776 (by omega)
  exact ⟨h1, ⟨h2.1, by show boundI timeout 1099511627776 ≤ _; omega⟩, ⟨by show (0 : Int) ≤ 0; omega, by show (0 : Int) ≤ 2 ^ 40; omega⟩, ⟨by show (0 : Int) ≤ 0; omega, by show (0 : Int) ≤ 2 ^ 40; omega⟩, List.Pairwise.nil, (fun e h => by cases h), List.nodup_nil, by show (0 : Int) ≤ boundI most 64; omega⟩
theorem new_c [Gh] (most timeout : Int) {h : Heap} {Q : Value → Heap → Prop} (hk : ∀ t r1 r2 h', Fr (fun _ => False) h h' → TabF (fun b => h.size ≤ b) h' t r1 r2 (newS most timeout) [] → Q (.pointer (some t)) h') : CallT Try.prog fn_flowtable_New #[.int .i64 most, .int .i64 timeout] h Q := by
  apply flowtable_New_s
  unfold flowtable_New_v
  refine bound_c _ _ (by omega) ⟨_, rfl, bound_c _ _ (by omega) ⟨_, rfl, ?_⟩⟩
  refine mkMap_mk (intE .i64) fun r1 h1 f1 e1 I1 => ?_
  refine mkMap_mk prE' fun r2 h2 f2 e2 I2 => ?_
  refine al_mk (vs := [.int .i64 (boundI most 64), .int .i64 (boundI timeout 1099511627776), .int .i64 0, .int .i64 1, .map (some r1), .map (some r2)]) fun t h3 f3 e3 o3 => ?_
  have l1 := I1.lt
  have l2 := I2.lt
  have z1 := f1.size
  have z2 := f2.size
  exact hk t r1 r2 h3 ((f1.trans f2).trans f3) ⟨o3, (I1.fr f2 id).fr f3 id, I2.fr f3 id, (fun c hc => by cases hc), by omega, by omega, by omega, ⟨by omega, by omega⟩, (fun c hc => by cases hc), List.nodup_nil, List.Perm.refl _⟩
end Go.Proofs.Ytbmifkjdjekenaa
