/-
  Keep, of the program and of the reference.
-/
import Derived.Test.YtfcnplakgmdfiaaThrS
import Derived.Test.YtfcnplakgmdfiaaRow
namespace Go.Proofs.Ytfcnplakgmdfiaa
set_option linter.unusedSimpArgs false
set_option linter.unusedVariables false
set_option maxRecDepth 20000
open Go
open Go.IntKind (wrap)
abbrev Ru := Int × Th
def ruleV (r : Ru) : List Value := [.int .i64 0, .int .i64 0, .slice none 0 0, .slice none 0 0, .slice none 0 0, .slice none 0 0, .bool false, .int .i64 r.1, .int .i64 0, .int .i64 0, .string (⟨#[]⟩ : ByteArray), .int .i64 0, .int .i64 0, .slice none 0 0, .slice none 0 0, .slice none 0 0, .slice none 0 0, .int .i64 r.2.kind, .int .i64 r.2.by_, .int .i64 r.2.count, .int .i64 r.2.secs]
theorem ruleV_len (r : Ru) : (ruleV r).length = 21 := rfl
def isR (k : Key) (r : Ru) : Bool := decide (r.1 = k.sid) && ((r.2.kind == k.th.kind) && ((r.2.by_ == k.th.by_) && ((r.2.count == k.th.count) && ((r.2.secs == k.th.secs) && true))))
def hasR (rs : List Ru) (k : Key) : Bool := rs.any (isR k)
theorem keep1_c [Gh] (r : Ru) {k : Key} {h : Heap} {t4 : Addr} (o4 : Own h t4 k.vals T_threshold_key) {Q : Value → Heap → Prop} (hk : ∀ h', Fr (fun _ => False) h h' → Q (.bool (isR k r)) h') :
    CallT Try.prog fn_threshold_Table_Keep_1 #[.agg #[.int .i64 0, .int .i64 0, .slice none 0 0, .slice none 0 0, .slice none 0 0, .slice none 0 0, .bool false, .int .i64 r.1, .int .i64 0, .int .i64 0, .string (⟨#[]⟩ : ByteArray), .int .i64 0, .int .i64 0, .slice none 0 0, .slice none 0 0, .slice none 0 0, .slice none 0 0, .int .i64 r.2.kind, .int .i64 r.2.by_, .int .i64 r.2.count, .int .i64 r.2.secs], .pointer (some t4)] h Q := by
  apply threshold_Table_Keep_1_s
  unfold threshold_Table_Keep_1_v
  refine al_mk (vs := ruleV r) fun t2 h1 f1 e1 o2 => ?_
  have o4 := o4.fr0 f1
  refine ldI_mk (o2.cells.at rfl) (ldI_mk (o4.cells.at0 rfl) ?_)
  have hk := hk h1 f1
  unfold isR at hk
  refine ifE (fun e => ?_) fun e => ?_
  · rw [decide_eq_true e] at hk
    refine ldI_mk ((o2.sub 17).at0 rfl) (ldI_mk ((o2.sub 17).at rfl) (ldI_mk ((o2.sub 17).at rfl) (ldI_mk ((o2.sub 17).at rfl) ?_)))
    refine ldI_mk ((o4.sub 1).at0 rfl) (ldI_mk ((o4.sub 1).at rfl) (ldI_mk ((o4.sub 1).at rfl) (ldI_mk ((o4.sub 1).at rfl) ?_)))
    exact hk
  · rw [decide_eq_false e] at hk; exact hk
theorem contains_c [Gh] {rs : List Ru} {p : Option Addr} {cap : Nat} {k : Key} {h : Heap} (R : Row 21 ruleV h p cap rs) (hl : rs.length ≤ 100) {t4 : Addr} (o4 : Own h t4 k.vals T_threshold_key) {Q : Value → Heap → Prop} (hk : ∀ h', Fr (fun _ => False) h h' → Q (.bool (hasR rs k)) h') :
    CallT Try.prog fn_slices_ContainsFunc_api_Rule_api_Rule #[.slice p rs.length cap, .func (.func 27) #[] #[.pointer (some t4)]] h Q := by
  apply slices_ContainsFunc_api_Rule_api_Rule_s
  unfold slices_ContainsFunc_api_Rule_api_Rule_v
  apply slices_IndexFunc_api_Rule_api_Rule_s
  unfold slices_IndexFunc_api_Rule_api_Rule_v
  refine LoopV.mk (fun st h' => ∃ i : Nat, st = (i : Int) ∧ i ≤ rs.length ∧ Fr (fun _ => False) h h' ∧ (rs.take i).any (isR k) = false) (fun st _ => rs.length - st.toNat) ⟨0, rfl, by omega, Fr.refl _ _, by simp⟩ ?_
  rintro - h1 ⟨i, rfl, hi, f1, hn⟩
  unfold slices_IndexFunc_api_Rule_api_Rule_l1
  refine ifD (fun e => ?_) fun e => ?_
  · refine (R.fr0 f1).idx ruleV_len (by omega) i rfl (by omega) fun ad c => ?_
    rw [Int.toNat_natCast]
    have hlt : i < rs.length := by omega
    have htk : rs.take (i + 1) = rs.take i ++ [rs[i]] := by rw [List.take_append_getElem]
    generalize hr : rs[i] = r at *
    refine ldI_mk (c.at0 rfl) (ldI_mk (c.at rfl) (ldL_mk (c.at rfl) (ldL_mk (c.at rfl) (ldL_mk (c.at rfl) (ldL_mk (c.at rfl) (ldB_mk (c.at rfl) (ldI_mk (c.at rfl) (ldI_mk (c.at rfl) (ldI_mk (c.at rfl) (ldS_mk (c.at rfl) (ldI_mk (c.at rfl) (ldI_mk (c.at rfl) (ldL_mk (c.at rfl) (ldL_mk (c.at rfl) (ldL_mk (c.at rfl) (ldL_mk (c.at rfl) (ldI_mk (c.at rfl) (ldI_mk (c.at rfl) (ldI_mk (c.at rfl) (ldI_mk (c.at rfl) ?_))))))))))))))))))))
    refine keep1_c r (o4.fr0 f1) fun h2 f2 => ⟨_, rfl, ?_⟩
    refine ifB (fun e => ?_) fun e => ?_
    · refine ⟨_, rfl, ?_⟩
      have : hasR rs k = true := by
        unfold hasR; rw [List.any_eq_true]; exact ⟨rs[i], List.getElem_mem hlt, by rw [hr]; exact e⟩
      rw [decide_eq_true (by omega), ← this]
      exact hk h2 (f1.trans f2)
    · rw [wr (by omega) (by omega)]
      refine ⟨⟨i + 1, rfl, hlt, f1.trans f2, ?_⟩, by omega⟩
      rw [htk, List.any_append, hn]; simp [e]
  · refine ⟨_, rfl, ?_⟩
    have : hasR rs k = false := by
      unfold hasR; rw [List.take_of_length_le (by omega)] at hn; exact hn
    rw [decide_eq_false (by omega), ← this]
    exact hk h1 f1
theorem IterI.restKeys {κ : Type} {enc : κ → Value} {h : Heap} {it r : Nat} {m rest : List (κ × Value)} (I : IterI enc h it r m rest) : (rest.map (·.1)).Nodup := by
  obtain ⟨es, c, sn, h1, h2, _, h3, rfl⟩ := I
  rw [List.map_map]
  exact h2.keys.sublist (List.filter_sublist.map _)
theorem ct_inj {S : List Ct} (nd : (S.map (·.key)).Nodup) {c d : Ct} (hc : c ∈ S) (hd : d ∈ S) (h : c.key = d.key) : c = d := by
  obtain ⟨i, hi, rfl⟩ := List.getElem_of_mem hc
  obtain ⟨j, hj, rfl⟩ := List.getElem_of_mem hd
  have hij : i = j := (List.getElem_inj (h₀ := by simpa using hi) (h₁ := by simpa using hj) nd).1 (by simp only [List.getElem_map]; exact h)
  subst hij; rfl
theorem keep_c [Gh] {ok : Nat → Prop} {N : Nat} {h : Heap} {t : Addr} {r : Nat} {T : Int} {S : List Ct} (R : TabR ok N h t r T S) {rs : List Ru} {p : Option Addr} {cap : Nat} (Rr : Row 21 ruleV h p cap rs) (hl : rs.length ≤ 100) (hp : ∀ b, InA p b → b ≠ r) {Q : Value → Heap → Prop}
    (hk : ∀ h', Fr (fun b => b = r) h h' → TabR ok N h' t r T (S.filter fun c => hasR rs c.key) → Q (.tuple #[]) h') :
    CallT Try.prog fn_threshold_Table_Keep #[.pointer (some t), .slice p rs.length cap] h Q := by
  classical
  apply threshold_Table_Keep_s
  unfold threshold_Table_Keep_v
  rw [if_neg (by simp)]
  refine nn_mk ⟨some r, R.own.cells.at rfl, ?_⟩
  refine range_mk Try.underlying59 R.map fun it h1 f1 e1 I1 => ⟨it, rfl, ?_⟩
  have hr := R.map.lt
  have lit := I1.lt
  have R := R.to (ok' := fun b => ok b ∧ b < h.size) ⟨R.lt, R.own.lt⟩ ⟨R.lr, R.map.lt⟩ fun c hc => ⟨(R.cp c hc).2.2, (R.cts c hc).lt⟩
  have all : (S.filter fun c => hasR rs c.key || decide (c ∈ S)) = S := by
    rw [List.filter_eq_self]; intro c hc; rw [decide_eq_true hc]; simp
  refine LoopV.mk (fun (_ : Unit) h' => ∃ rest : List Ct, IterI Key.v h' it r ((S.filter fun c => hasR rs c.key || decide (c ∈ rest)).map Ct.kv) (rest.map Ct.kv) ∧ Fr (fun b => b = r) h h' ∧ TabR (fun b => ok b ∧ b < h.size) N h' t r T (S.filter fun c => hasR rs c.key || decide (c ∈ rest)) ∧ ∀ c ∈ rest, c ∈ S) (fun _ h' => leftN h' it r)
    ⟨S, by rw [all]; exact I1, f1.mono fun _ h => h.elim, by rw [all]; exact R.fr0 f1, fun _ h => h⟩ ?_
  rintro - h2 ⟨rest, I2, f2, R2, hrest⟩
  rw [I2.left]
  unfold threshold_Table_Keep_l1
  have nk := I2.restKeys
  rw [List.map_map] at nk
  have nk : (rest.map (·.key)).Nodup := nk
  refine next_mk I2 (fun hn => ⟨fun _ => ?_, fun h => absurd rfl h⟩) fun a x b h3 hab hx f3 s3 I3 C3 => ⟨fun h => by simp at h, fun _ => ⟨_, _, rfl, ?_⟩⟩
  · have hn : rest = [] := by simpa using hn
    subst hn
    have e : (S.filter fun c => hasR rs c.key || decide (c ∈ ([] : List Ct))) = S.filter fun c => hasR rs c.key := by
      apply List.filter_congr; intro c _; simp
    rw [e] at R2
    exact hk h2 f2 (R2.to R2.lt.1 R2.lr.1 fun c hc => (R2.cp c hc).2.2.1)
  · obtain ⟨ra, rb', er, ea, eb⟩ := List.map_eq_append_iff.1 hab
    obtain ⟨cx, rb, erb, ecx, eb2⟩ := List.map_eq_cons_iff.1 eb
    subst er erb ecx ea eb2
    have hcx : cx ∈ S := hrest cx (by simp)
    have hni : cx ∉ ra ++ rb := fun hm => by
      rw [List.map_append, List.map_cons, List.nodup_append, List.nodup_cons] at nk
      rcases List.mem_append.1 hm with hm | hm
      · exact nk.2.2 _ (List.mem_map_of_mem hm) cx.key (by simp) rfl
      · exact nk.2.1.1 (List.mem_map_of_mem hm)
    have hsub : ∀ c ∈ ra ++ rb, c ∈ S := fun c hc => hrest c (by rcases List.mem_append.1 hc with h | h <;> simp [h])
    have hmem : ∀ c, c ∈ ra ++ cx :: rb ↔ (c = cx ∨ c ∈ ra ++ rb) := fun c => by simp only [List.mem_append, List.mem_cons]; constructor <;> (intro h; rcases h with h | h | h <;> simp [h])
    refine entry_mk C3 ⟨_, _, rfl, dKey ?_⟩
    refine cp_mk (vs := cx.key.vals) rfl rfl fun t4 h4 f4 e4 o4 => ?_
    have z1 := f1.size
    have z2 := f2.size
    have z4 := f4.size
    have f24 : Fr (fun b => b = r) h h4 := (f2.tr f3 fun y hy hi => by omega).trans (f4.mono fun _ h => h.elim)
    have R4 := (R2.fr f3 fun b hb hi ho => by have := ho.2; omega).fr0 f4
    have I4 := I3.fr f4 id id
    have lI : (List.map Ct.kv (ra ++ cx :: rb)).length = (ra ++ rb).length + 1 := by simp; omega
    rw [lI]
    rw [← List.map_append] at I4
    refine contains_c (Rr.fr f24 hp) hl o4 fun h5 f5 => ⟨_, rfl, ?_⟩
    have o4 := o4.fr0 f5
    have R5 := R4.fr0 f5
    have I5 := I4.fr f5 id id
    have f25 := f24.trans (f5.mono fun _ h => h.elim)
    refine ifN (fun e => ?_) fun e => ?_
    · refine nn_mk ⟨some r, R5.own.cells.at rfl, ?_⟩
      refine (ldI_mk (o4.cells.at0 rfl) (ldI_mk (o4.cells.at rfl) (ldI_mk (o4.cells.at rfl) (ldI_mk (o4.cells.at rfl) (ldI_mk (o4.cells.at rfl) (ldB_mk (o4.cells.at rfl) (ldI_mk (o4.cells.at rfl) (ldI_mk (o4.cells.at rfl) (ldB_mk (o4.cells.at rfl) (ldI_mk (o4.cells.at rfl) (ldI_mk (o4.cells.at rfl) ?_)))))))))))
      refine iter_del keyT Try.underlying59 I5 cx.key fun h6 f6 s6 I6 => ⟨rfl, ?_⟩
      rw [del_filter, del_filter] at I6
      have er : (ra ++ rb).filter (fun c => decide (c.key ≠ cx.key)) = ra ++ rb := by
        rw [List.filter_eq_self]
        intro c hc
        exact decide_eq_true fun hk => hni (ct_inj R.keys (hsub c hc) hcx hk ▸ hc)
      have R6 := R5.filter _ f6 I6.map
      have es : (S.filter fun c => hasR rs c.key || decide (c ∈ ra ++ cx :: rb)).filter (fun c => decide (c.key ≠ cx.key)) = S.filter fun c => hasR rs c.key || decide (c ∈ ra ++ rb) := by
        rw [List.filter_filter]
        apply List.filter_congr
        intro c hc
        by_cases hcc : c = cx
        · subst hcc
          rw [e, decide_eq_false hni]; simp
        · have : c.key ≠ cx.key := fun hk => hcc (ct_inj R.keys hc hcx hk)
          rw [decide_eq_true this, Bool.true_and]
          congr 1
          rw [Bool.eq_iff_iff, decide_eq_true_eq, decide_eq_true_eq, hmem]
          exact ⟨fun h => h.resolve_left hcc, .inr⟩
      rw [es] at I6 R6
      rw [er] at I6
      exact ⟨⟨ra ++ rb, I6, f25.trans f6, R6, hsub⟩, by rw [I6.left]; simp⟩
    · have es : (S.filter fun c => hasR rs c.key || decide (c ∈ ra ++ cx :: rb)) = S.filter fun c => hasR rs c.key || decide (c ∈ ra ++ rb) := by
        apply List.filter_congr
        intro c hc
        by_cases hcc : c = cx
        · subst hcc
          rw [e]; simp
        · congr 1
          rw [Bool.eq_iff_iff, decide_eq_true_eq, decide_eq_true_eq, hmem]
          exact ⟨fun h => h.resolve_left hcc, .inr⟩
      rw [es] at I5 R5
      exact ⟨⟨ra ++ rb, I5, f25, R5, hsub⟩, by rw [I5.left]; simp⟩
/-! ### The reference -/
theorem rKeep_c [Gh] {ok : Nat → Prop} {h : Heap} {x : Addr} {T : Int} {L : List Tri} (R : RefR ok h x T L) (hok : ∀ b, h.size ≤ b → ok b) (hL : L.length ≤ 300) {rs : List Ru} {p : Option Addr} {cap : Nat} (Rr : Row 21 ruleV h p cap rs) (hl : rs.length ≤ 100) (hp : ∀ b, InA p b → b ≠ x.block) {Q : Value → Heap → Prop}
    (hk : ∀ h', Fr (fun b => b = x.block) h h' → RefR ok h' x T (L.filter fun e => hasR rs e.1) → Q (.tuple #[]) h') :
    CallT Try.prog fn_ref51_Table_Keep #[.pointer (some x), .slice p rs.length cap] h Q := by
  obtain ⟨⟨q, qc, ox, rr, hq⟩, okx⟩ := R
  apply ref51_Table_Keep_s
  unfold ref51_Table_Keep_v
  have lx := ox.lt
  refine LoopV.mk (fun st h' => ∃ (i : Nat) (a : Option Addr) (c : Nat), st = (a, ((L.take i).filter fun e => hasR rs e.1).length, c, (i : Int)) ∧ i ≤ L.length ∧ Fr (fun _ => False) h h' ∧ RowT h' a c ((L.take i).filter fun e => hasR rs e.1) ∧ ∀ b, InA a b → h.size ≤ b)
    (fun st _ => L.length - st.2.2.2.toNat) ⟨0, none, 0, rfl, by omega, Fr.refl _ _, ⟨⟨rfl, rfl⟩, Nat.le_refl _⟩, fun b hb => (notInA hb).elim⟩ ?_
  rintro - h1 ⟨i, a, c, rfl, hi, f1, Ra, ha⟩
  have o1 := ox.fr0 f1
  have r1 := rr.fr f1 fun _ _ => id
  have z1 := f1.size
  unfold ref51_Table_Keep_l1
  dsimp only
  refine nn_mk (ldL_mk (o1.cells.at rfl) ?_)
  refine ifD (fun e => ?_) fun e => ?_
  · have hlt : i < L.length := by omega
    have htk : L.take (i + 1) = L.take i ++ [L[i]] := by rw [List.take_append_getElem]
    generalize hle : L[i] = le at *
    refine LoopV.mk (fun st h' => ∃ k : Nat, st = ((rs.take k).any (isR le.1), (k : Int)) ∧ k ≤ rs.length ∧ h' = h1) (fun st _ => rs.length - st.2.toNat) ⟨0, by simp, by omega, rfl⟩ ?_
    rintro - h2 ⟨k, rfl, hk', hh⟩
    subst h2
    unfold ref51_Table_Keep_l2
    dsimp only
    refine ifD (fun e2 => ?_) fun e2 => ?_
    · have hkl : k < rs.length := by omega
      have htr : rs.take (k + 1) = rs.take k ++ [rs[k]] := by rw [List.take_append_getElem]
      generalize hrk : rs[k] = rk at *
      rw [wr (x := (k : Int) + 1) (by omega) (by omega)]
      refine ifB (fun e3 => ?_) fun e3 => ?_
      · exact ⟨⟨k + 1, by rw [htr, List.any_append, e3]; rfl, hkl, rfl⟩, by first | omega | (simp only; omega)⟩
      · have fin : ∀ b : Bool, b = isR le.1 rk → (∃ k' : Nat, (b, (k : Int) + 1) = ((rs.take k').any (isR le.1), (k' : Int)) ∧ k' ≤ rs.length ∧ h1 = h1) ∧ rs.length - ((k : Int) + 1).toNat < rs.length - (k : Int).toNat := fun b hb =>
          ⟨⟨k + 1, by rw [htr, List.any_append, e3, hb]; simp, hkl, rfl⟩, by omega⟩
        unfold isR at fin
        refine (Rr.fr0 f1).idx ruleV_len (by omega) k rfl hkl fun ad cr => ?_
        rw [hrk] at cr
        rw [Int.toNat_natCast, Int.toNat_natCast]
        refine ldI_mk (cr.at rfl) (nn_mk (ldL_mk (o1.cells.at rfl) ?_))
        refine r1.idx i rfl hlt fun ad2 ce => ?_
        rw [hle] at ce
        refine ldI_mk (ce.at0 rfl) ?_
        refine ifE (fun e4 => ?_) fun e4 => ?_
        · refine (Rr.fr0 f1).idx ruleV_len (by omega) k rfl hkl fun ad3 cr3 => ?_
          rw [hrk] at cr3
          refine ldI_mk (cr3.sub 17 |>.at0 rfl) (ldI_mk (cr3.sub 17 |>.at rfl) (ldI_mk (cr3.sub 17 |>.at rfl) (ldI_mk (cr3.sub 17 |>.at rfl) (nn_mk (ldL_mk (o1.cells.at rfl) ?_)))))
          refine r1.idx i rfl hlt fun ad4 ce4 => ?_
          rw [hle] at ce4
          refine ldI_mk (ce4.sub 1 |>.at0 rfl) (ldI_mk (ce4.sub 1 |>.at rfl) (ldI_mk (ce4.sub 1 |>.at rfl) (ldI_mk (ce4.sub 1 |>.at rfl) ?_)))
          exact fin _ (by rw [decide_eq_true e4]; rfl)
        · exact fin _ (by rw [decide_eq_false e4]; rfl)
    · have hany : (rs.take k).any (isR le.1) = hasR rs le.1 := by rw [List.take_of_length_le (by omega)]; rfl
      rw [hany]
      have hfl : (L.take (i + 1)).filter (fun e => hasR rs e.1) = (L.take i).filter (fun e => hasR rs e.1) ++ if hasR rs le.1 then [le] else [] := by
        rw [htk, List.filter_append]; congr 1
        cases hh : hasR rs le.1 <;> simp [hh]
      have hlen : ((L.take i).filter fun e => hasR rs e.1).length ≤ 300 := Nat.le_trans (List.length_filter_le ..) (by rw [List.length_take]; omega)
      unfold ref51_Table_Keep_b3
      rw [wr (x := (i : Int) + 1) (by omega) (by omega)]
      refine ifB (fun e3 => ?_) fun e3 => ?_
      · rw [e3, if_pos rfl] at hfl
        refine nn_mk (ldL_mk (o1.cells.at rfl) ?_)
        refine r1.idx i rfl hlt fun ad2 ce => ?_
        rw [hle, ← Int.toNat_natCast i] at ce
        refine (ldI_mk (ce.at0 rfl) (ldI_mk (ce.at rfl) (ldI_mk (ce.at rfl) (ldI_mk (ce.at rfl) (ldI_mk (ce.at rfl) (ldB_mk (ce.at rfl) (ldI_mk (ce.at rfl) (ldI_mk (ce.at rfl) (ldB_mk (ce.at rfl) (ldI_mk (ce.at rfl) (ldI_mk (ce.at rfl) (ldI_mk (ce.at rfl) (ldI_mk (ce.at rfl) ?_)))))))))))))
        refine al_mk (vs := triV le) fun b h3 f3 e3' ob => ?_
        have z3 := f3.size
        refine (Ra.fr f3 fun _ _ => id).app ob (by omega) fun p' c' h4 R4 f4 hn4 => ⟨_, _, _, rfl, ?_⟩
        rw [← hfl] at R4 ⊢
        have f14 : Fr (fun _ => False) h h4 := (f1.trans f3).tr f4 fun b hb hi => by have := ha b hi; omega
        refine ⟨⟨i + 1, p', c', rfl, hlt, f14, R4, fun b hb => ?_⟩, by first | omega | (simp only; omega)⟩
        rcases hn4 b hb with h | h
        · exact ha b h
        · omega
      · rw [e3] at hfl
        have hfl : (L.take (i + 1)).filter (fun e => hasR rs e.1) = (L.take i).filter (fun e => hasR rs e.1) := by rw [hfl]; simp
        rw [← hfl] at Ra ⊢
        exact ⟨⟨i + 1, a, c, rfl, hlt, f1, Ra, ha⟩, by first | omega | (simp only; omega)⟩
  · unfold ref51_Table_Keep_b4
    rw [List.take_of_length_le (show L.length ≤ i by omega)] at Ra ⊢
    refine nn_mk (st1_own o1 1 (by simp) rfl fun h2 f2 s2 o2 => ?_)
    refine hk h2 (f1.mono (fun _ h => h.elim) |>.trans f2) ⟨⟨a, c, o2, Ra.fr f2 (fun b hb => by have := ha b hb; omega), fun b hb => ⟨by have := ha b hb; omega, hok b (ha b hb)⟩⟩, okx⟩
end Go.Proofs.Ytfcnplakgmdfiaa
