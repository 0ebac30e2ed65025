/-
  New, Len, flows, and the example.
-/
import Derived.Test.YtfcnplakgmdfiaaThrH
namespace Go.Proofs.Ytfcnplakgmdfiaa
set_option linter.unusedSimpArgs false
set_option linter.unusedVariables false
set_option maxRecDepth 20000
open Go
open Go.IntKind (wrap)
def flowL (a b : Int) : Fl := ⟨6, ⟨false, 0, a⟩, ⟨false, 0, b⟩, 0, 0⟩
theorem wru64 {x : Int} (h1 : 0 ≤ x) (h2 : x ≤ 18446744073709551615) : wrap .u64 x = x := by
  unfold IntKind.wrap IntKind.bits IntKind.signed
  simp only [Bool.false_and, ge_iff_le]
  rw [if_neg (by simp)]
  omega
theorem flow_c [Gh] (a b : Int) (ha : 0 ≤ a ∧ a ≤ 2 ^ 60) (hb : 0 ≤ b ∧ b ≤ 2 ^ 60) {h : Heap} {Q : Value → Heap → Prop}
    (hk : ∀ h', Fr (fun _ => False) h h' → Q (.agg #[.int .i64 (flowL a b).proto, .bool (flowL a b).src.v6, .int .u64 (flowL a b).src.hi, .int .u64 (flowL a b).src.lo, .bool (flowL a b).dst.v6, .int .u64 (flowL a b).dst.hi, .int .u64 (flowL a b).dst.lo, .int .i64 (flowL a b).sport, .int .i64 (flowL a b).dport]) h') :
    CallT Try.prog fn_law51_flow #[.int .i64 a, .int .i64 b] h Q := by
  apply law51_flow_s
  unfold law51_flow_v
  rw [wru64 (x := a) (by omega) (by omega), wru64 (x := b) (by omega) (by omega)]
  refine cp_mk (vs := (flowL a b).vals) rfl rfl fun t h1 f1 e1 o1 => ?_
  refine (ldI_mk (o1.cells.at0 rfl) (ldB_mk (o1.cells.at rfl) (ldI_mk (o1.cells.at rfl) (ldI_mk (o1.cells.at rfl) (ldB_mk (o1.cells.at rfl) (ldI_mk (o1.cells.at rfl) (ldI_mk (o1.cells.at rfl) (ldI_mk (o1.cells.at rfl) (ldI_mk (o1.cells.at rfl) ?_)))))))))
  exact hk h1 f1
theorem len_c [Gh] {ok : Nat → Prop} {N : Nat} {h : Heap} {t : Addr} {r : Nat} {T : Int} {S : List Ct} (R : TabR ok N h t r T S) {Q : Value → Heap → Prop} (hk : Q (.int .i64 S.length) h) : CallT Try.prog fn_threshold_Table_Len #[.pointer (some t)] h Q := by
  apply threshold_Table_Len_s
  unfold threshold_Table_Len_v
  rw [if_neg (by simp)]
  refine nn_mk ⟨some r, R.own.cells.at rfl, ?_⟩
  refine len_mk Try.underlying59 R.map ⟨_, rfl, ?_⟩
  rw [List.length_map]; exact hk
theorem new_c [Gh] {h : Heap} {Q : Value → Heap → Prop} (hk : ∀ t r h', Fr (fun _ => False) h h' → TabR (fun b => h.size ≤ b) 0 h' t r 0 [] → Q (.pointer (some t)) h') : CallT Try.prog fn_threshold_New #[] h Q := by
  apply threshold_New_s
  unfold threshold_New_v
  refine mkMap_mk Key.v fun r h1 f1 e1 I1 => ?_
  refine al_mk (vs := [.int .i64 0, .map (some r)]) fun t h2 f2 e2 o2 => ?_
  have lr := I1.lt
  have z1 := f1.size
  exact hk t r h2 (f1.trans f2) ⟨o2, I1.fr f2 id, (fun c hc => by cases hc), by omega, by omega, by omega, (fun c hc => by cases hc), List.nodup_nil, by omega, (fun c hc => by cases hc)⟩
theorem step_nil {L' : List Tri} {k : Key} {T secs : Int} (h : StepF [] L' k T secs) : L' = [(k, T, 1)] := by
  unfold StepF curL addL Shrunk at h
  simp at h
  exact h
theorem step_one {L' : List Tri} {k : Key} {b n T secs : Int} (h : StepF [(k, b, n)] L' k T secs) : L' = [(k, if T ≥ b + 1000 * secs then (T, 1) else (b, n + 1))] ∧ (curL [(k, b, n)] k T secs).2 = if T ≥ b + 1000 * secs then 0 else n := by
  have hc : curL [(k, b, n)] k T secs = if T ≥ b + 1000 * secs then (T, 0) else (b, n) := by unfold curL; simp
  unfold StepF at h
  rw [hc] at h ⊢
  unfold addL Shrunk at h
  by_cases e : T ≥ b + 1000 * secs
  · simp [e] at h ⊢; exact h
  · simp [e] at h ⊢; exact h
theorem map_one {S : List Ct} {x : Tri} (h : S.map Ct.tri = [x]) : S.length = 1 := by
  have := congrArg List.length h; simpa using this
def thA : Th := ⟨1, 1, 2, 60⟩
theorem awake_c [Gh] {h : Heap} {Q : Value → Heap → Prop} (hk : ∀ h', Fr (fun _ => False) h h' → Q (.bool true) h') : CallT Try.prog fn_law51_awake #[] h Q := by
  apply law51_awake_s
  unfold law51_awake_v
  refine new_c fun t r h1 f1 R1 => ⟨_, rfl, ?_⟩
  refine cp_mk (vs := thA.vals) rfl rfl fun t2 h2 f2 e2 o2 => ?_
  rw [if_neg (by simp)]
  have ff := f1.trans f2
  have R2 := R1.fr0 f2
  have z1 := f1.size
  have hA : countsB thA = true := by decide
  have l2 := o2.lt
  refine (ldI_mk (o2.cells.at0 rfl) (ldI_mk (o2.cells.at rfl) (ldI_mk (o2.cells.at rfl) (ldI_mk (o2.cells.at rfl) ?_))))
  refine (ldI_mk (o2.cells.at0 rfl) (ldI_mk (o2.cells.at rfl) (ldI_mk (o2.cells.at rfl) (ldI_mk (o2.cells.at rfl) ?_))))
  refine (ldI_mk (o2.cells.at0 rfl) (ldI_mk (o2.cells.at rfl) (ldI_mk (o2.cells.at rfl) (ldI_mk (o2.cells.at rfl) ?_))))
  refine (ldI_mk (o2.cells.at0 rfl) (ldI_mk (o2.cells.at rfl) (ldI_mk (o2.cells.at rfl) (ldI_mk (o2.cells.at rfl) ?_))))
  generalize hk0 : keyL 1 thA (flowL 1 2) = k0
  refine flow_c 1 2 (by omega) (by omega) fun h3 f3 => ⟨_, _, _, _, _, _, _, _, _, rfl, ?_⟩
  have o3 := o2.fr0 f3
  refine ⟨chk4 o3.cells, chk4 o3.cells, chk4 o3.cells, chk4 o3.cells, ?_⟩
  have R3 := R2.fr0 f3
  have z3 := (ff.trans f3).size
  have lt1 := R1.own.lt
  have lr1 := R1.map.lt
  have z2 := f2.size
  have hS1 := R1.lt
  have hS2 := R1.lr
  have R3 := R3.to (ok' := fun b => h.size ≤ b ∧ b ≠ t2.block) ⟨hS1, by omega⟩ ⟨hS2, by omega⟩ (fun c hc => by cases hc)
  have z23 := f3.size
  have no : ∀ {X : Prop}, countsB thA = false → X := fun h => by rw [hA] at h; cases h
  have fin : ∀ {a b : Heap}, Fr (fun _ => False) h a → Fr (fun b => h.size ≤ b ∧ b ≠ t2.block) a b → Fr (fun _ => False) h b := fun f g => f.tr g fun x hx hi => by omega
  have keep : ∀ {a b : Heap}, Own a t2 thA.vals T_api_Threshold → Fr (fun b => h.size ≤ b ∧ b ≠ t2.block) a b → Own b t2 thA.vals T_api_Threshold := fun o g => o.fr g fun hh => hh.2 rfl
  refine filter_c R3 (by omega) (by decide) (fun b hb => by omega) 0 1 thA (flowL 1 2) no fun _ h4 S4 f4 R4 st4 => ⟨_, rfl, ?_⟩
  rw [hk0] at st4 ⊢
  have T1 : timeL 0 0 = 0 := by decide
  have T2 : timeL 0 1000 = 1000 := by decide
  have T3 : timeL 1000 59999 = 59999 := by decide
  have T4 : timeL 59999 60000 = 60000 := by decide
  rw [T1] at st4 R4 ⊢
  have e4 := step_nil st4
  have z4 := f4.size
  have o4 := keep o3 f4
  have F4 := fin (ff.trans f3) f4
  refine ⟨chk4 o4.cells, chk4 o4.cells, chk4 o4.cells, ?_⟩
  refine flow_c 1 2 (by omega) (by omega) fun h5 f5 => ⟨_, _, _, _, _, _, _, _, _, rfl, ?_⟩
  have o5 := o4.fr0 f5
  have z5 := f5.size
  refine ⟨chk4 o5.cells, chk4 o5.cells, chk4 o5.cells, ?_⟩
  have l4 := map_one e4
  refine filter_c (R4.fr0 f5) (by omega) (by rw [l4]; decide) (fun b hb => by omega) 1000 1 thA (flowL 1 2) no fun _ h6 S6 f6 R6 st6 => ⟨_, rfl, ?_⟩
  rw [hk0, e4, T2] at st6 ⊢
  rw [T2] at R6
  obtain ⟨e6, c6⟩ := step_one st6
  rw [c6]
  have z6 := f6.size
  have o6 := keep o5 f6
  have F6 := fin (F4.trans f5) f6
  refine ⟨chk4 o6.cells, chk4 o6.cells, ?_⟩
  refine flow_c 1 2 (by omega) (by omega) fun h7 f7 => ⟨_, _, _, _, _, _, _, _, _, rfl, ?_⟩
  have o7 := o6.fr0 f7
  have z7 := f7.size
  refine ⟨chk4 o7.cells, chk4 o7.cells, ?_⟩
  have l6 := map_one e6
  refine filter_c (R6.fr0 f7) (by omega) (by rw [l6]; decide) (fun b hb => by omega) 59999 1 thA (flowL 1 2) no fun _ h8 S8 f8 R8 st8 => ⟨_, rfl, ?_⟩
  have n6 : ¬ ((1000 : Int) ≥ 0 + 1000 * thA.secs) := by decide
  rw [if_neg n6] at e6 ⊢
  rw [hk0, e6, T3] at st8 ⊢
  rw [T3] at R8
  obtain ⟨e8, c8⟩ := step_one st8
  have n8 : ¬ ((59999 : Int) ≥ 0 + 1000 * thA.secs) := by decide
  rw [if_neg n8] at e8 c8
  rw [c8]
  have z8 := f8.size
  have o8 := keep o7 f8
  have F8 := fin (F6.trans f7) f8
  refine ⟨chk4 o8.cells, ?_⟩
  refine flow_c 1 2 (by omega) (by omega) fun h9 f9 => ⟨_, _, _, _, _, _, _, _, _, rfl, ?_⟩
  have o9 := o8.fr0 f9
  have z9 := f9.size
  refine ⟨chk4 o9.cells, ?_⟩
  have l8 := map_one e8
  refine filter_c (R8.fr0 f9) (by omega) (by rw [l8]; decide) (fun b hb => by omega) 60000 1 thA (flowL 1 2) no fun _ h10 S10 f10 R10 st10 => ⟨_, rfl, ?_⟩
  rw [hk0, e8, T4] at st10 ⊢
  rw [T4] at R10
  obtain ⟨e10, c10⟩ := step_one st10
  have n10 : ((60000 : Int) ≥ 0 + 1000 * thA.secs) := by decide
  rw [if_pos n10] at e10 c10
  rw [c10]
  have F10 := fin (F8.trans f9) f10
  have b1 : kindB thA ((curL [] k0 0 thA.secs).2 + 1) = true := by rfl
  have b2 : kindB thA (1 + 1) = true := by decide
  have b3 : kindB thA (1 + 1 + 1) = false := by decide
  have b4 : kindB thA (0 + 1) = true := by decide
  show if kindB thA ((curL [] k0 0 thA.secs).2 + 1) = true then _ else _
  rw [b1, b2, b3, b4]
  rw [if_pos rfl, if_pos rfl, if_pos (by decide), if_pos rfl]
  refine len_c R10 ⟨_, rfl, ?_⟩
  rw [map_one e10]
  exact hk h10 F10
end Go.Proofs.Ytfcnplakgmdfiaa
