/-
  The program's Filter: the walk.
-/
import Derived.Test.YtfcnplakgmdfiaaThrF
namespace Go.Proofs.Ytfcnplakgmdfiaa
set_option linter.unusedSimpArgs false
set_option linter.unusedVariables false
set_option maxRecDepth 20000
open Go
open Go.IntKind (wrap)
theorem TabR.mono {ok : Nat → Prop} {N M : Nat} {h : Heap} {t : Addr} {r : Nat} {T : Int} {S : List Ct} (R : TabR ok N h t r T S) (hn : N ≤ M) : TabR ok M h t r T S :=
  { R with num := fun c hc => by obtain ⟨a, b, d, e⟩ := R.num c hc; exact ⟨a, b, d, by omega⟩ }
theorem TabR.filter {ok : Nat → Prop} {N : Nat} {h h' : Heap} {t : Addr} {r : Nat} {T : Int} {S : List Ct} (R : TabR ok N h t r T S) (p : Ct → Bool) (f : Fr (fun b => b = r) h h') (I : MapI Key.v h' r ((S.filter p).map Ct.kv)) : TabR ok N h' t r T (S.filter p) :=
  ⟨R.own.fr f (fun h => R.tr h.symm), I, fun c hc => (R.cts c (List.mem_filter.1 hc).1).fr f (R.cp c (List.mem_filter.1 hc).1).2.1, R.tr, R.lt, R.lr, fun c hc => R.cp c (List.mem_filter.1 hc).1, R.nd.sublist (List.filter_sublist.map _), R.T0, fun c hc => R.num c (List.mem_filter.1 hc).1⟩
theorem filt_b2 [Gh] {h : Heap} {t8 : Addr} {th : Th} (o8 : Own h t8 th.vals T_api_Threshold) (hc : 1 ≤ th.count) {n : Int} {Q : Value → Heap → Prop} (hk : Q (.bool (kindB th n)) h) : threshold_Table_Filter_b2 t8 n Q h := by
  unfold threshold_Table_Filter_b2
  unfold kindB at hk
  refine ldI_mk (o8.cells.at0 rfl) ?_
  refine ifE (fun e => ?_) fun e => ?_
  · rw [if_pos e] at hk; exact ldI_mk (o8.cells.at rfl) hk
  rw [if_neg e] at hk
  refine ifE (fun e => ?_) fun e => ?_
  · rw [if_pos e] at hk; exact ldI_mk (o8.cells.at rfl) ⟨by omega, hk⟩
  rw [if_neg e] at hk
  exact ldI_mk (o8.cells.at rfl) hk
def Away (a : Addr) (r : Nat) (S : List Ct) : Prop := a.block ≠ r ∧ ∀ c ∈ S, c.p.block ≠ a.block
/-- The counter counts, and the table forgets one when there are too many. -/
theorem filt_b1 [Gh] {ok : Nat → Prop} {N : Nat} {h : Heap} {t : Addr} {r : Nat} {T : Int} {A B : List Ct} {c : Ct} (R : TabR ok N h t r T (A ++ c :: B)) (hN : N ≤ 2 ^ 40) (hS : (A ++ c :: B).length ≤ 2 ^ 40) {t8 : Addr} {th : Th} (o8 : Own h t8 th.vals T_api_Threshold) (h8 : Away t8 r (A ++ c :: B)) (hc : 1 ≤ th.count) {Q : Value → Heap → Prop}
    (hk : ∀ h' S', Fr ok h h' → TabR ok (N + 1) h' t r T S' → Shrunk ((A ++ { c with n := c.n + 1 } :: B).map Ct.tri) (S'.map Ct.tri) → Q (.bool (kindB th (c.n + 1))) h') : threshold_Table_Filter_b1 (some t) t8 (some c.p) Q h := by
  unfold threshold_Table_Filter_b1
  have hcm : c ∈ A ++ c :: B := by simp
  have oc := R.cts c hcm
  obtain ⟨n1, n2, n3, n4⟩ := R.num c hcm
  obtain ⟨p1, p2, p3⟩ := R.cp c hcm
  refine nn_mk (ldI_mk (oc.cells.at rfl) (nn_mk ?_))
  rw [wr (x := c.n + 1) (by omega) (by omega)]
  refine st1_own oc 1 (by simp [Ct.vals]) rfl fun h1 f1 s1 o1 => ?_
  have f1' : Fr ok h h1 := f1.mono fun b hb => hb ▸ p3
  have nd := R.nd
  rw [List.map_append, List.map_cons, List.nodup_append, List.nodup_cons] at nd
  have R1 : TabR ok (N + 1) h1 t r T (A ++ { c with n := c.n + 1 } :: B) := by
    refine ⟨R.own.fr f1 (fun e => p1 e.symm), ?_, fun x hx => ?_, R.tr, R.lt, R.lr, fun x hx => ?_, ?_, R.T0, fun x hx => ?_⟩
    · have := R.map.fr f1 (fun e => p2 e.symm)
      have e : (A ++ { c with n := c.n + 1 } :: B).map Ct.kv = (A ++ c :: B).map Ct.kv := by simp [Ct.kv]
      rw [e]; exact this
    · rcases List.mem_append.1 hx with h | h
      · exact (R.cts x (List.mem_append_left _ h)).fr f1 (fun e => nd.2.2 _ (List.mem_map_of_mem h) c.p.block (by simp) e)
      · rcases List.mem_cons.1 h with rfl | h
        · exact o1
        · exact (R.cts x (by simp [h])).fr f1 (fun e => nd.2.1.1 (e ▸ List.mem_map_of_mem h))
    · rcases List.mem_append.1 hx with h | h
      · exact R.cp x (List.mem_append_left _ h)
      · rcases List.mem_cons.1 h with rfl | h
        · exact ⟨p1, p2, p3⟩
        · exact R.cp x (by simp [h])
    · have := R.nd; simpa using this
    · rcases List.mem_append.1 hx with h | h
      · obtain ⟨a, b, d, e⟩ := R.num x (List.mem_append_left _ h); exact ⟨a, b, d, by omega⟩
      · rcases List.mem_cons.1 h with rfl | h
        · exact ⟨n1, n2, by show 0 ≤ c.n + 1; omega, by show c.n + 1 ≤ ((N + 1 : Nat) : Int); omega⟩
        · obtain ⟨a, b, d, e⟩ := R.num x (by simp [h]); exact ⟨a, b, d, by omega⟩
  have o8' := o8.fr f1 (fun e => h8.2 c hcm e.symm)
  refine nn_mk (ldI_mk (o1.cells.at rfl) (nn_mk ⟨some r, R1.own.cells.at rfl, ?_⟩))
  refine len_mk Try.underlying59 R1.map ⟨_, rfl, ?_⟩
  have hlen : ((A ++ { c with n := c.n + 1 } :: B).map Ct.kv).length = ((A ++ { c with n := c.n + 1 } :: B).map Ct.tri).length := by simp
  rw [hlen]
  generalize hS2 : A ++ { c with n := c.n + 1 } :: B = S2 at *
  refine ifD (fun e => ?_) fun e => ?_
  · refine nn_mk ⟨some r, R1.own.cells.at rfl, ?_⟩
    refine first_c R1.own R1.map R1.cts (by rw [← hS2]; simp) fun d hd hmin h2 f2 => ⟨_, _, _, _, _, _, _, _, _, _, _, rfl, ⟨some r, (R1.own.fr0 f2).cells.at rfl, rfl⟩, ?_⟩
    have R2 := R1.fr0 f2
    have o8 := o8'.fr0 f2
    refine del_mk keyT Try.underlying59 R2.map d.key fun h3 f3 s3 I3 => ⟨rfl, ?_⟩
    rw [del_filter] at I3
    have R3 := R2.filter _ f3 I3
    refine filt_b2 (o8.fr f3 h8.1) hc (hk h3 _ ((f1'.trans (f2.mono fun _ h => h.elim)).trans (f3.mono fun b hb => hb ▸ R.lr)) R3 ?_)
    unfold Shrunk
    rw [if_neg (by omega)]
    refine ⟨d.tri, List.mem_map_of_mem hd, fun y hy => ?_, ?_⟩
    · obtain ⟨x, hx, rfl⟩ := List.mem_map.1 hy
      exact hmin x hx
    · rw [List.filter_map]; exact List.Perm.refl _
  · refine filt_b2 o8' hc (hk h1 _ f1' R1 ?_)
    unfold Shrunk
    rw [if_pos (by omega)]
theorem filt_b3 [Gh] {ok : Nat → Prop} {N : Nat} {h : Heap} {t : Addr} {r : Nat} {T : Int} {S : List Ct} (R : TabR ok N h t r T S) (hN : N ≤ 2 ^ 40) (hS : S.length < 2 ^ 40) (hok : ∀ b, h.size ≤ b → ok b) {t8 t11 : Addr} {th : Th} {k : Key} (o8 : Own h t8 th.vals T_api_Threshold) (h8 : Away t8 r S) (o11 : Own h t11 k.vals T_threshold_key) (hc : 1 ≤ th.count) {Q : Value → Heap → Prop}
    (hk : ∀ h' S', Fr ok h h' → TabR ok (N + 1) h' t r T S' → Shrunk (addL (S.map Ct.tri) k T 1) (S'.map Ct.tri) → Q (.bool (kindB th 1)) h') : threshold_Table_Filter_b3 (some t) t8 t11 Q h := by
  unfold threshold_Table_Filter_b3
  refine nn_mk (ldI_mk (R.own.cells.at0 rfl) ?_)
  refine al_mk (vs := [.int .i64 T, .int .i64 0]) fun p h1 f1 e1 o1 => ?_
  have R1 := R.fr0 f1
  refine nn_mk ⟨some r, R1.own.cells.at rfl, ?_⟩
  have o11 := o11.fr0 f1
  refine (ldI_mk (o11.cells.at0 rfl) (ldI_mk (o11.cells.at rfl) (ldI_mk (o11.cells.at rfl) (ldI_mk (o11.cells.at rfl) (ldI_mk (o11.cells.at rfl) (ldB_mk (o11.cells.at rfl) (ldI_mk (o11.cells.at rfl) (ldI_mk (o11.cells.at rfl) (ldB_mk (o11.cells.at rfl) (ldI_mk (o11.cells.at rfl) (ldI_mk (o11.cells.at rfl) ?_)))))))))))
  have hlp := o1.lt
  have lr := R.map.lt
  have lt := R.own.lt
  refine mapUpd_mk keyT Try.underlying59 R1.map k (.pointer (some p)) fun h2 f2 s2 I2 => ?_
  have l8 := o8.lt
  have o8 := (o8.fr0 f1).fr f2 h8.1
  have f02 : Fr ok h h2 := (f1.mono fun _ h => h.elim).trans (f2.mono fun b hb => hb ▸ R.lr)
  have mk : ∀ (A B : List Ct), (∀ x ∈ A ++ B, x ∈ S) → ((A ++ B).map (·.p.block)).Nodup → MapI Key.v h2 r ((A ++ ⟨k, p, T, 0⟩ :: B).map Ct.kv) → TabR ok N h2 t r T (A ++ ⟨k, p, T, 0⟩ :: B) := by
    intro A B hAB hnd I
    have hp : p.block = h.size := e1
    have hx : ∀ x ∈ S, x.p.block ≠ p.block := fun x hx => by have := (R.cts x hx).lt; omega
    refine ⟨R1.own.fr f2 (fun e => R.tr e.symm), I, fun x hx' => ?_, R.tr, R.lt, R.lr, fun x hx' => ?_, ?_, R.T0, fun x hx' => ?_⟩
    · rcases List.mem_append.1 hx' with h | h
      · have hs := hAB x (List.mem_append_left _ h); exact (R1.cts x hs).fr f2 (R.cp x hs).2.1
      · rcases List.mem_cons.1 h with rfl | h
        · exact o1.fr f2 (by show ¬ p.block = r; omega)
        · have hs := hAB x (List.mem_append_right _ h); exact (R1.cts x hs).fr f2 (R.cp x hs).2.1
    · rcases List.mem_append.1 hx' with h | h
      · exact R.cp x (hAB x (List.mem_append_left _ h))
      · rcases List.mem_cons.1 h with rfl | h
        · exact ⟨by show p.block ≠ t.block; omega, by show p.block ≠ r; omega, hok _ (by show _ ≤ p.block; omega)⟩
        · exact R.cp x (hAB x (List.mem_append_right _ h))
    · rw [List.map_append, List.nodup_append] at hnd
      rw [List.map_append, List.map_cons, List.nodup_append, List.nodup_cons]
      refine ⟨hnd.1, ⟨fun hm => ?_, hnd.2.1⟩, fun a ha b hb => ?_⟩
      · obtain ⟨x, hxB, ex⟩ := List.mem_map.1 hm
        exact hx x (hAB x (List.mem_append_right _ hxB)) ex
      · rcases List.mem_cons.1 hb with rfl | hb
        · obtain ⟨x, hxA, ex⟩ := List.mem_map.1 ha
          exact fun e => hx x (hAB x (List.mem_append_left _ hxA)) (ex.trans e)
        · exact hnd.2.2 a ha b hb
    · rcases List.mem_append.1 hx' with h | h
      · exact R.num x (hAB x (List.mem_append_left _ h))
      · rcases List.mem_cons.1 h with rfl | h
        · exact ⟨R.T0.1, R.T0.2, by show (0 : Int) ≤ 0; omega, by show (0 : Int) ≤ N; omega⟩
        · exact R.num x (hAB x (List.mem_append_right _ h))
  cases hg : getL (S.map Ct.kv) k with
  | none =>
    have hn := get_none hg
    rw [put_new (c' := ⟨k, p, T, 0⟩) hn] at I2
    have R2 := mk S [] (by simp) (by simpa using R.nd) I2
    have := filt_b1 R2 hN (by simp; omega) o8 ⟨h8.1, fun x hx => by rcases List.mem_append.1 hx with hx | hx; exact h8.2 x hx; rw [List.mem_singleton.1 hx]; show p.block ≠ t8.block; omega⟩ hc (Q := Q) fun h3 S' f3 R3 sh => ?_
    · exact this
    · refine hk h3 S' (f02.trans f3) R3 ?_
      rw [addL_new (c' := ⟨k, p, T, 1⟩) hn]
      exact sh
  | some v =>
    obtain ⟨A, c, B, rfl, rfl, rfl⟩ := get_mem hg
    rw [put_repl (c' := ⟨c.key, p, T, 0⟩) R.keys rfl] at I2
    have nd := R.nd
    have R2 := mk A B (fun x hx => by rcases List.mem_append.1 hx with h | h <;> simp [h]) (by
      rw [List.map_append, List.map_cons, List.nodup_append, List.nodup_cons] at nd
      rw [List.map_append, List.nodup_append]
      exact ⟨nd.1, nd.2.1.2, fun a ha b hb => nd.2.2 a ha b (List.mem_cons_of_mem _ hb)⟩) I2
    have := filt_b1 R2 hN (by simp at hS ⊢; omega) o8 ⟨h8.1, fun x hx => by rcases List.mem_append.1 hx with hx | hx; exact h8.2 x (List.mem_append_left _ hx); rcases List.mem_cons.1 hx with rfl | hx; (show p.block ≠ t8.block; omega); exact h8.2 x (by simp [hx])⟩ hc (Q := Q) fun h3 S' f3 R3 sh => ?_
    · exact this
    · refine hk h3 S' (f02.trans f3) R3 ?_
      exact sh.of_perm (addL_mid (c' := ⟨c.key, p, T, 1⟩) R.keys rfl).symm
end Go.Proofs.Ytfcnplakgmdfiaa
