/-
  The program's Filter.
-/
import Derived.Test.YtfcnplakgmdfiaaThrE
namespace Go.Proofs.Ytfcnplakgmdfiaa
set_option linter.unusedSimpArgs false
set_option linter.unusedVariables false
set_option maxRecDepth 20000
open Go
open Go.IntKind (wrap)
abbrev Tri := Key × Int × Int
def Ct.tri (c : Ct) : Tri := (c.key, c.began, c.n)
structure TabR (ok : Nat → Prop) (N : Nat) (h : Heap) (t : Addr) (r : Nat) (T : Int) (S : List Ct) : Prop where
  own : Own h t [.int .i64 T, .map (some r)] T_threshold_Table
  map : MapI Key.v h r (S.map Ct.kv)
  cts : CtsOk h S
  tr : r ≠ t.block
  lt : ok t.block
  lr : ok r
  cp : ∀ c ∈ S, c.p.block ≠ t.block ∧ c.p.block ≠ r ∧ ok c.p.block
  nd : (S.map (·.p.block)).Nodup
  T0 : 0 ≤ T ∧ T ≤ 2 ^ 40
  num : ∀ c ∈ S, 0 ≤ c.began ∧ c.began ≤ 2 ^ 40 ∧ 0 ≤ c.n ∧ c.n ≤ N
theorem TabR.fr {ok : Nat → Prop} {N : Nat} {h h' : Heap} {t : Addr} {r : Nat} {T : Int} {S : List Ct} (R : TabR ok N h t r T S) {P : Nat → Prop} (f : Fr P h h') (hP : ∀ b, b < h.size → P b → ¬ ok b) : TabR ok N h' t r T S := by
  have hlt := R.own.lt
  have hr := R.map.lt
  refine ⟨R.own.fr f (fun hp => ?_), R.map.fr f (fun hp => ?_), fun c hc => (R.cts c hc).fr f (fun hp => ?_), R.tr, R.lt, R.lr, R.cp, R.nd, R.T0, R.num⟩
  · exact hP _ hlt hp R.lt
  · exact hP _ hr hp R.lr
  · exact hP _ (R.cts c hc).lt hp (R.cp c hc).2.2
theorem TabR.fr0 {ok : Nat → Prop} {N : Nat} {h h' : Heap} {t : Addr} {r : Nat} {T : Int} {S : List Ct} (f : Fr (fun _ => False) h h') (R : TabR ok N h t r T S) : TabR ok N h' t r T S := R.fr f fun _ _ h => h.elim
theorem TabR.to {ok ok' : Nat → Prop} {N : Nat} {h : Heap} {t : Addr} {r : Nat} {T : Int} {S : List Ct} (R : TabR ok N h t r T S) (h1 : ok' t.block) (h2 : ok' r) (h3 : ∀ c ∈ S, ok' c.p.block) : TabR ok' N h t r T S :=
  ⟨R.own, R.map, R.cts, R.tr, h1, h2, fun c hc => ⟨(R.cp c hc).1, (R.cp c hc).2.1, h3 c hc⟩, R.nd, R.T0, R.num⟩
theorem TabR.keys {ok : Nat → Prop} {N : Nat} {h : Heap} {t : Addr} {r : Nat} {T : Int} {S : List Ct} (R : TabR ok N h t r T S) : (S.map (·.key)).Nodup := by
  have := R.map.keys
  rw [List.map_map] at this; exact this
theorem get_mem {S : List Ct} {k : Key} {v : Value} (h : getL (S.map Ct.kv) k = some v) : ∃ A c B, S = A ++ c :: B ∧ c.key = k ∧ v = .pointer (some c.p) := by
  unfold getL at h
  rw [Option.map_eq_some_iff] at h
  obtain ⟨e, he, rfl⟩ := h
  have hm := List.mem_of_find?_eq_some he
  have hk := List.find?_some he
  obtain ⟨c, hc, rfl⟩ := List.mem_map.1 hm
  obtain ⟨A, B, rfl⟩ := List.append_of_mem hc
  exact ⟨A, c, B, rfl, of_decide_eq_true hk, rfl⟩
theorem get_none {S : List Ct} {k : Key} (h : getL (S.map Ct.kv) k = none) : ∀ c ∈ S, c.key ≠ k := fun c hc hk => by
  have : (getL (S.map Ct.kv) k).isSome = true := get_some.2 ⟨c.kv, List.mem_map_of_mem hc, hk⟩
  rw [h] at this; cases this
theorem put_repl {A B : List Ct} {c c' : Ct} (nd : ((A ++ c :: B).map (·.key)).Nodup) (hk : c'.key = c.key) : putL ((A ++ c :: B).map Ct.kv) c.key (.pointer (some c'.p)) = (A ++ c' :: B).map Ct.kv := by
  have hs : (getL ((A ++ c :: B).map Ct.kv) c.key).isSome = true := get_some.2 ⟨c.kv, List.mem_map_of_mem (by simp), rfl⟩
  have e : (A ++ c :: B).map Ct.kv = A.map Ct.kv ++ c.kv :: B.map Ct.kv := by simp
  have hk2 : A.length < ((A ++ c :: B).map Ct.kv).length := by simp
  have hg : ((A ++ c :: B).map Ct.kv)[A.length].1 = c.key := by simp [Ct.kv]
  unfold putL
  rw [if_pos hs, put_set (by rw [List.map_map]; exact nd) hk2 hg]
  simp [Ct.kv, hk]
theorem put_new {S : List Ct} {c' : Ct} (h : ∀ c ∈ S, c.key ≠ c'.key) : putL (S.map Ct.kv) c'.key (.pointer (some c'.p)) = (S ++ [c']).map Ct.kv := by
  have hs : ¬ (getL (S.map Ct.kv) c'.key).isSome = true := fun hh => by
    obtain ⟨e, he, ek⟩ := get_some.1 hh
    obtain ⟨c, hc, rfl⟩ := List.mem_map.1 he
    exact h c hc ek
  unfold putL
  rw [if_neg hs]; simp [Ct.kv]
theorem del_filter (S : List Ct) (k : Key) : delL (S.map Ct.kv) k = (S.filter fun c => decide (c.key ≠ k)).map Ct.kv := by
  unfold delL; rw [List.filter_map]; rfl
/-! ### What a call of Filter does to a list of counters -/
def kindB (t : Th) (n : Int) : Bool := if t.kind = 1 then decide (n ≤ t.count) else if t.kind = 2 then (Int.tmod n t.count == 0) else n == t.count
def curL (L : List Tri) (k : Key) (T secs : Int) : Int × Int := match L.find? (fun e => decide (e.1 = k)) with
  | some (_, b, n) => if T ≥ b + 1000 * secs then (T, 0) else (b, n)
  | none => (T, 0)
def befT (x y : Tri) : Bool := befK x.2.1 x.1 y.2.1 y.1
def addL (L : List Tri) (k : Key) (b n : Int) : List Tri := L.filter (fun e => decide (e.1 ≠ k)) ++ [(k, b, n)]
/-- What stays when there are more counters than may be. -/
def Shrunk (M L' : List Tri) : Prop := if M.length ≤ 256 then L'.Perm M else ∃ c ∈ M, (∀ y ∈ M, befT y c = false) ∧ L'.Perm (M.filter fun e => decide (e.1 ≠ c.1))
theorem Shrunk.of_perm {M M' L' : List Tri} (p : M.Perm M') (h : Shrunk M L') : Shrunk M' L' := by
  unfold Shrunk at *
  rw [← p.length_eq]
  split
  · rename_i hl
    rw [if_pos hl] at h; exact h.trans p
  · rename_i hl
    rw [if_neg hl] at h
    obtain ⟨c, hc, h1, h2⟩ := h
    exact ⟨c, p.mem_iff.1 hc, fun y hy => h1 y (p.mem_iff.2 hy), h2.trans (p.filter _)⟩
theorem Shrunk.unique {M L1 L2 : List Tri} (nd : (M.map (·.1)).Nodup) (h1 : Shrunk M L1) (h2 : Shrunk M L2) : L1.Perm L2 := by
  unfold Shrunk at *
  split at h1
  · rename_i hl
    rw [if_pos hl] at h2; exact h1.trans h2.symm
  · rename_i hl
    rw [if_neg hl] at h2
    obtain ⟨c, hc, g1, g2⟩ := h1
    obtain ⟨d, hd, k1, k2⟩ := h2
    have := befK_total (g1 d hd) (k1 c hc)
    rw [this.2] at k2
    exact g2.trans k2.symm
theorem addL_mid {A B : List Ct} {c c' : Ct} (nd : ((A ++ c :: B).map (·.key)).Nodup) (hk : c'.key = c.key) : (addL ((A ++ c :: B).map Ct.tri) c.key c'.began c'.n).Perm ((A ++ c' :: B).map Ct.tri) := by
  have hA : ∀ x ∈ A, x.key ≠ c.key := fun x hx e => by
    rw [List.map_append, List.nodup_append] at nd
    exact nd.2.2 _ (List.mem_map_of_mem hx) c.key (by simp) e
  have hB : ∀ x ∈ B, x.key ≠ c.key := fun x hx e => by
    rw [List.map_append, List.map_cons, List.nodup_append, List.nodup_cons] at nd
    exact nd.2.1.1 (e ▸ List.mem_map_of_mem hx)
  have eA : (A.map Ct.tri).filter (fun e => decide (e.1 ≠ c.key)) = A.map Ct.tri := by
    rw [List.filter_eq_self]; intro e he
    obtain ⟨x, hx, rfl⟩ := List.mem_map.1 he
    exact decide_eq_true (hA x hx)
  have eB : (B.map Ct.tri).filter (fun e => decide (e.1 ≠ c.key)) = B.map Ct.tri := by
    rw [List.filter_eq_self]; intro e he
    obtain ⟨x, hx, rfl⟩ := List.mem_map.1 he
    exact decide_eq_true (hB x hx)
  unfold addL
  rw [List.map_append, List.map_cons, List.filter_append, List.filter_cons, eA, eB]
  have : (decide (c.tri.1 ≠ c.key)) = false := by simp [Ct.tri]
  rw [this]
  simp only [Bool.false_eq_true, if_false, List.map_append, List.map_cons, List.append_assoc]
  have : (c.key, c'.began, c'.n) = c'.tri := by unfold Ct.tri; rw [hk]
  rw [this]
  exact (List.perm_append_left_iff _).2 (List.perm_append_comm (l₁ := B.map Ct.tri) (l₂ := [c'.tri]))
theorem addL_new {S : List Ct} {c' : Ct} (h : ∀ c ∈ S, c.key ≠ c'.key) : addL (S.map Ct.tri) c'.key c'.began c'.n = (S ++ [c']).map Ct.tri := by
  have e : (S.map Ct.tri).filter (fun e => decide (e.1 ≠ c'.key)) = S.map Ct.tri := by
    rw [List.filter_eq_self]; intro e he
    obtain ⟨x, hx, rfl⟩ := List.mem_map.1 he
    exact decide_eq_true (h x hx)
  unfold addL
  rw [e]; simp [Ct.tri]
end Go.Proofs.Ytfcnplakgmdfiaa
