/-
  The program's Filter, Len, New.
-/
import Derived.Test.YtfcnplakgmdfiaaThrG
namespace Go.Proofs.Ytfcnplakgmdfiaa
set_option linter.unusedSimpArgs false
set_option linter.unusedVariables false
set_option maxRecDepth 20000
open Go
open Go.IntKind (wrap)
def timeL (T at_ : Int) : Int := if (if (1099511627776 : Int) < at_ then (1099511627776 : Int) else at_) > T then (if (1099511627776 : Int) < at_ then (1099511627776 : Int) else at_) else T
theorem timeL_ok {T at_ : Int} (h : 0 ≤ T ∧ T ≤ 2 ^ 40) : 0 ≤ timeL T at_ ∧ timeL T at_ ≤ 2 ^ 40 := by
  unfold timeL; split <;> split <;> omega
theorem countsB_iff {t : Th} : countsB t = true ↔ 1 ≤ t.kind ∧ t.kind ≤ 3 ∧ 1 ≤ t.by_ ∧ t.by_ ≤ 3 ∧ 1 ≤ t.count ∧ t.count ≤ 65536 ∧ 1 ≤ t.secs ∧ t.secs ≤ 86400 := by
  unfold countsB; rw [decide_eq_true_eq]
theorem cur_get {S : List Ct} {k : Key} (T secs : Int) : (getL (S.map Ct.kv) k = none → curL (S.map Ct.tri) k T secs = (T, 0)) := by
  intro h
  have hn := get_none h
  have : (S.map Ct.tri).find? (fun e => decide (e.1 = k)) = none := by
    rw [List.find?_eq_none]
    intro e he
    obtain ⟨c, hc, rfl⟩ := List.mem_map.1 he
    exact fun h => hn c hc (of_decide_eq_true h)
  unfold curL; rw [this]
theorem cur_mid {A B : List Ct} {c : Ct} (nd : ((A ++ c :: B).map (·.key)).Nodup) (T secs : Int) : curL ((A ++ c :: B).map Ct.tri) c.key T secs = if T ≥ c.began + 1000 * secs then (T, 0) else (c.began, c.n) := by
  have hA : ∀ x ∈ A, x.key ≠ c.key := fun x hx e => by
    rw [List.map_append, List.nodup_append] at nd
    exact nd.2.2 _ (List.mem_map_of_mem hx) c.key (by simp) e
  have : ((A ++ c :: B).map Ct.tri).find? (fun e => decide (e.1 = c.key)) = some c.tri := by
    rw [List.map_append, List.find?_append]
    have : (A.map Ct.tri).find? (fun e => decide (e.1 = c.key)) = none := by
      rw [List.find?_eq_none]
      intro e he
      obtain ⟨x, hx, rfl⟩ := List.mem_map.1 he
      exact fun h => hA x hx (of_decide_eq_true h)
    rw [this]
    simp [Ct.tri]
  unfold curL; rw [this]; rfl
/-- What a call of Filter does: to the list of counters, and what it answers. -/
def StepF (L L' : List Tri) (k : Key) (T secs : Int) : Prop := Shrunk (addL L k (curL L k T secs).1 ((curL L k T secs).2 + 1)) L'
theorem filter_c [Gh] {ok : Nat → Prop} {N : Nat} {h : Heap} {t : Addr} {r : Nat} {T : Int} {S : List Ct} (R : TabR ok N h t r T S) (hN : N ≤ 2 ^ 40) (hS : S.length < 2 ^ 40) (hok : ∀ b, h.size ≤ b → ok b) (at_ sid : Int) (th : Th) (f : Fl) {Q : Value → Heap → Prop}
    (hk0 : countsB th = false → ∀ h', Fr ok h h' → TabR ok N h' t r T S → Q (.bool true) h')
    (hk : countsB th = true → ∀ h' S', Fr ok h h' → TabR ok (N + 1) h' t r (timeL T at_) S' → StepF (S.map Ct.tri) (S'.map Ct.tri) (keyL sid th f) (timeL T at_) th.secs →
      Q (.bool (kindB th ((curL (S.map Ct.tri) (keyL sid th f) (timeL T at_) th.secs).2 + 1))) h') :
    CallT Try.prog fn_threshold_Table_Filter #[.pointer (some t), .int .i64 at_, .int .i64 sid, .agg #[.int .i64 th.kind, .int .i64 th.by_, .int .i64 th.count, .int .i64 th.secs], .agg #[.int .i64 f.proto, .bool f.src.v6, .int .u64 f.src.hi, .int .u64 f.src.lo, .bool f.dst.v6, .int .u64 f.dst.hi, .int .u64 f.dst.lo, .int .i64 f.sport, .int .i64 f.dport]] h Q := by
  apply threshold_Table_Filter_s
  unfold threshold_Table_Filter_v
  refine al_mk (vs := th.vals) fun t8 h1 f1 e1 o8 => ?_
  refine al_mk (vs := f.vals) fun t9 h2 f2 e2 o9 => ?_
  have l8 := o8.lt
  have o8 := o8.fr0 f2
  rw [if_neg (by simp)]
  refine (ldI_mk (o8.cells.at0 rfl) (ldI_mk (o8.cells.at rfl) (ldI_mk (o8.cells.at rfl) (ldI_mk (o8.cells.at rfl) ?_))))
  refine counts_c th fun h3 f3 => ⟨_, rfl, ?_⟩
  have f03 := (f1.trans f2).trans f3
  have lift : ∀ {a b : Heap}, Fr (fun _ => False) a b → Fr ok a b := fun f => f.mono fun _ h => h.elim
  have R3 := R.fr0 f03
  have z1 := f1.size
  have z2 := f2.size
  have z3 := f3.size
  have hlt := R.own.lt
  have hlr := R.map.lt
  refine ifN (fun e => hk0 e h3 (lift f03) R3) fun e => ?_
  have hk := hk e
  obtain ⟨b1, b2, b3, b4, b5, b6, b7, b8⟩ := countsB_iff.1 e
  have o8 := o8.fr0 f3
  have o9 := o9.fr0 f3
  refine nn_mk (ldI_mk (R3.own.cells.at0 rfl) (nn_mk ?_))
  refine st1_own0 R3.own (by simp) rfl fun h4 f4 s4 ot => ?_
  have ot : Own h4 t [.int .i64 (timeL T at_), .map (some r)] T_threshold_Table := ot
  have hT := timeL_ok (at_ := at_) R.T0
  have R4 : TabR ok N h4 t r (timeL T at_) S := ⟨ot, R3.map.fr f4 R.tr, fun c hc => (R3.cts c hc).fr f4 (R.cp c hc).1, R.tr, R.lt, R.lr, R.cp, R.nd, hT, R.num⟩
  have f04 : Fr ok h h4 := (lift f03).trans (f4.mono fun b hb => hb ▸ R.lt)
  have o8 := o8.fr f4 (by omega)
  have o9 := o9.fr f4 (by omega)
  generalize timeL T at_ = T' at *
  refine (ldI_mk (o8.cells.at0 rfl) (ldI_mk (o8.cells.at rfl) (ldI_mk (o8.cells.at rfl) (ldI_mk (o8.cells.at rfl) ?_))))
  refine (ldI_mk (o9.cells.at0 rfl) (ldB_mk (o9.cells.at rfl) (ldI_mk (o9.cells.at rfl) (ldI_mk (o9.cells.at rfl) (ldB_mk (o9.cells.at rfl) (ldI_mk (o9.cells.at rfl) (ldI_mk (o9.cells.at rfl) (ldI_mk (o9.cells.at rfl) (ldI_mk (o9.cells.at rfl) ?_)))))))))
  refine keyOf_c sid th f fun h5 f5 => ⟨_, _, _, _, _, _, _, _, _, _, _, rfl, ?_⟩
  refine cp_mk (vs := (keyL sid th f).vals) rfl rfl fun t11 h7 f7 e7 o11 => ?_
  have f47 := f5.trans f7
  have R7 := R4.fr0 f47
  have o8 := o8.fr0 f47
  have f07 := f04.trans (lift f47)
  have z47 := f47.size
  have hok7 : ∀ b, h7.size ≤ b → ok b := fun b hb => hok b (by omega)
  have aw : Away t8 r S := ⟨by omega, fun c hc => by have := (R.cts c hc).lt; omega⟩
  refine nn_mk ⟨some r, R7.own.cells.at rfl, ?_⟩
  refine (ldI_mk (o11.cells.at0 rfl) (ldI_mk (o11.cells.at rfl) (ldI_mk (o11.cells.at rfl) (ldI_mk (o11.cells.at rfl) (ldI_mk (o11.cells.at rfl) (ldB_mk (o11.cells.at rfl) (ldI_mk (o11.cells.at rfl) (ldI_mk (o11.cells.at rfl) (ldB_mk (o11.cells.at rfl) (ldI_mk (o11.cells.at rfl) (ldI_mk (o11.cells.at rfl) ?_)))))))))))
  refine look_mk keyT Try.underlying59 (z := .pointer none) (fun {h K} hk => ?_) R7.map (keyL sid th f) false ?_
  · exact zero_mk (i := Try.t69) (by kernel_rfl) (by kernel_rfl) hk
  generalize keyL sid th f = k at *
  unfold StepF at hk
  cases hg : getL (S.map Ct.kv) k with
  | none =>
    refine ⟨none, rfl, ?_⟩
    rw [if_pos (by rfl)]
    rw [cur_get T' th.secs hg] at hk
    exact filt_b3 R7 hN hS hok7 o8 aw o11 b5 fun h8 S' f8 R8 sh => hk h8 S' (f07.trans f8) R8 sh
  | some v =>
    obtain ⟨A, c, B, rfl, rfl, rfl⟩ := get_mem hg
    refine ⟨some c.p, rfl, ?_⟩
    rw [if_neg (by simp)]
    rw [cur_mid R.keys] at hk
    have hcm : c ∈ A ++ c :: B := by simp
    obtain ⟨m1, m2, m3, m4⟩ := R.num c hcm
    refine nn_mk (ldI_mk (R7.own.cells.at0 rfl) (nn_mk (ldI_mk ((R7.cts c hcm).cells.at0 rfl) (ldI_mk (o8.cells.at rfl) ?_))))
    rw [wr (x := 1000 * th.secs) (by omega) (by omega), wr (by omega) (by omega)]
    refine ifD (fun e2 => ?_) fun e2 => ?_
    · rw [if_pos e2] at hk
      exact filt_b3 R7 hN hS hok7 o8 aw o11 b5 fun h8 S' f8 R8 sh => hk h8 S' (f07.trans f8) R8 sh
    · rw [if_neg e2] at hk
      refine filt_b1 R7 hN (by omega) o8 aw b5 fun h8 S' f8 R8 sh => hk h8 S' (f07.trans f8) R8 ?_
      exact sh.of_perm (addL_mid (c' := { c with n := c.n + 1 }) R.keys rfl).symm
end Go.Proofs.Ytfcnplakgmdfiaa
