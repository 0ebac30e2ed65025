/-
  The search of package content.
-/
import Derived.Test.YtkmommchanjobaaContE
namespace Go.Proofs.Ytkmommchanjobaa
set_option linter.unusedSimpArgs false
set_option linter.unusedVariables false
open Go
theorem stN_blk {b : Nat} {t : TypeId} {K : Heap → Prop} : ∀ (vs : List Value) (i : Nat) (cs : Array Value) (h : Heap), h[b]? = some (.cells cs t (0, 0)) → (∀ v ∈ vs, cellV v = true) → i + vs.length ≤ cs.size →
    K (h.setIfInBounds b (.cells (splice cs i vs) t (0, 0))) → stN h ⟨b, 0, none⟩ vs i K
  | [], i, cs, h, hb, _, _, hk => by
    have : h.setIfInBounds b (.cells cs t (0, 0)) = h := by
      apply Array.ext_getElem?
      intro j
      rw [Array.getElem?_setIfInBounds]
      split
      · rename_i e; subst e
        split
        · exact hb.symm
        · rename_i hj; exact (Array.getElem?_eq_none (by omega)).symm
      · rfl
    unfold splice at hk; rw [this] at hk; exact hk
  | v :: vs, i, cs, h, hb, hv, hl, hk => by
    simp only [List.length_cons] at hl
    unfold stN
    rw [add_mk, Nat.zero_add]
    refine ⟨hv v (by simp), ?_, hfrozen_blk hb, ?_⟩
    · rw [hcell_blk hb, Array.getElem?_eq_getElem (by omega)]; rfl
    · rw [hset_blk hb]
      refine stN_blk vs (i + 1) _ _ (get_set hb) (fun x hx => hv x (by simp [hx])) (by simp; omega) ?_
      rw [Array.setIfInBounds_setIfInBounds]
      exact hk
theorem st_new {h : Heap} {t : TypeId} {zs vs : List Value} {K : Addr → Heap → Prop} (hv : ∀ v ∈ vs, cellV v = true) (hl : vs.length = zs.length) (hs : splice zs.toArray 0 vs = vs.toArray)
    (hk : K ⟨h.size, 0, none⟩ (h.push (.cells vs.toArray t (0, 0)))) : alV h (.cells zs.toArray t) fun a h1 => stN h1 a vs 0 fun h2 => K a h2 := by
  unfold alV
  refine stN_blk vs 0 zs.toArray _ get_push_self hv (by simp; omega) ?_
  have : (h.push (.cells zs.toArray t (0, 0))).setIfInBounds h.size (.cells (splice zs.toArray 0 vs) t (0, 0)) = h.push (.cells vs.toArray t (0, 0)) := by
    rw [hs]
    apply Array.ext_getElem?
    intro j
    rw [Array.getElem?_setIfInBounds, Array.getElem?_push, Array.getElem?_push]
    by_cases e : j = h.size
    · subst e; simp
    · rw [if_neg (fun x => e x.symm), if_neg e, if_neg e]
  rw [this]; exact hk
theorem ldP_mk {h : Heap} {a : Addr} {p : Option Addr} {K : Option Addr → Prop} (hc : hcell h a = some (.pointer p)) (hk : K p) : ldP h a K := ⟨p, hc, hk⟩
theorem ldL_mk {h : Heap} {a : Addr} {p : Option Addr} {n c : Nat} {K : Option Addr → Nat → Nat → Prop} (hc : hcell h a = some (.slice p n c)) (hk : K p n c) : ldL h a K := ⟨p, n, c, hc, hk⟩
theorem blk0 {h : Heap} {b : Nat} {v : Value} {cs : List Value} {t : TypeId} (hb : h[b]? = some (.cells (v :: cs).toArray t (0, 0))) : hcell h ⟨b, 0, none⟩ = some v := by rw [hcell_blk hb]; rfl
section
variable {b : Nat} {La : Option Addr} {lc : Nat} {Ta : Option Addr} {tc : Nat} {cs : List Cn} {ts : List Ts} {d : List UInt8} {N : Nat}
theorem tests_c [Gh] (hot : ∀ t ∈ ts, OkT t) (htl : ts.length < 2 ^ 40) (hd : d.length < 2 ^ 30) {h : Heap} {left : Nat} (s : SS h b La lc Ta tc cs ts d N left false) {s3 : Nat} (hs3 : ∃ t, h[s3]? = some (.cells #[.pointer (some ⟨b, 0, none⟩)] t (0, 0))) (cur : Int) (hcur : 0 ≤ cur ∧ cur ≤ d.length)
    {Q : Value → Heap → Prop} (hk : ∀ h', Fr (fun _ => False) h h' → Q (.tuple #[.int .i64 (if ts.all (fun t => testL t d cur) then cur else 0), .bool (ts.all (fun t => testL t d cur))]) h') :
    content_search_from_b3 cur ⟨s3, 0, none⟩ Q h := by
  simp only [content_search_from_b3]
  obtain ⟨t3, h3⟩ := hs3
  have s' := s
  obtain ⟨⟨t, hb⟩, hrc, hrt, hle⟩ := s'
  refine ldP_mk (by rw [hcell_blk h3]; rfl) ?_
  refine ldL_mk (p := Ta) (n := ts.length) (c := tc) (by rw [add_mk, hcell_blk hb]; rfl) ?_
  refine LoopV.mk (fun i h' => ∃ k : Nat, i = k ∧ k ≤ ts.length ∧ Fr (fun _ => False) h h' ∧ ∀ j (hj : j < ts.length), j < k → testL ts[j] d cur = true) (fun i _ => ts.length - i.toNat) ⟨0, rfl, by omega, Fr.refl _ _, fun j _ hj => by omega⟩ ?_
  rintro i h' ⟨k, rfl, hkl, hf, hpre⟩
  simp only [content_search_from_b9, content_search_from_b10, content_search_from_b8, content_search_from_b7, content_search_from_b6, content_search_from_b5, content_search_from_l4]
  by_cases hk' : k < ts.length
  · rw [if_pos (by rw [decide_eq_true_eq]; omega)]
    obtain ⟨ad, rfl, hnb, r⟩ := (hrt.fr hf fun _ h => h.elim) k hk'
    refine ⟨by omega, by omega, ?_⟩
    simp only [nn]
    rw [Int.toNat_natCast]
    refine ldI_mk r.c0 (ldI_mk r.c1 (ldI_mk r.c2 (ldI_mk r.c3 (ldB_mk r.c4 (ldB_mk r.c5 (ldB_mk r.c6 ?_))))))
    refine st_new (zs := [Value.int .i64 (0 : Int), Value.int .i64 (0 : Int), Value.int .i64 (0 : Int), Value.int .i64 (0 : Int), Value.bool false, Value.bool false, Value.bool false]) (vs := tsV ts[k]) (by intro v hv; simp [tsV] at hv; rcases hv with rfl | rfl | rfl | rfl | rfl | rfl | rfl <;> rfl) rfl rfl ?_
    have fp := Fr.push (fun _ => False) h' (.cells (tsV ts[k]).toArray 34 (0, 0))
    have hta : TsAt (h'.push (.cells (tsV ts[k]).toArray 34 (0, 0))) ⟨h'.size, 0, none⟩ ts[k] := by
      constructor <;> (try rw [add_mk]) <;> rw [hcell_blk get_push_self] <;> rfl
    generalize h'.push (.cells (tsV ts[k]).toArray 34 (0, 0)) = h4 at *
    have hf4 := hf.trans fp
    refine ldI_mk hta.c0 (ldI_mk hta.c1 (ldI_mk hta.c2 (ldI_mk hta.c3 (ldB_mk hta.c4 (ldB_mk hta.c5 (ldB_mk hta.c6 ?_))))))
    refine ldP_mk (by rw [hcell_blk (hf4.get h3 id)]; rfl) ?_
    refine ldS_mk (by rw [add_mk, hcell_blk (hf4.get hb id)]; rfl) ?_
    refine Test_c ts[k] d cur (hot _ (List.getElem_mem hk')) ⟨hcur.1, by omega⟩ (by omega) fun h5 f5 => ⟨_, rfl, ?_⟩
    by_cases ht : testL ts[k] d cur = true
    · rw [ht, if_neg (by simp), wr (by omega) (by omega)]
      refine ⟨⟨k + 1, by omega, by omega, hf4.trans f5, fun j hj hjk => ?_⟩, by omega⟩
      by_cases hjk' : j = k
      · subst hjk'; exact ht
      · exact hpre j hj (by omega)
    · rw [if_pos (by simpa using ht)]
      have : ts.all (fun t => testL t d cur) = false := by
        rw [List.all_eq_false]; exact ⟨ts[k], List.getElem_mem hk', by simpa using ht⟩
      have := this ▸ hk h5 (hf4.trans f5)
      exact this
  · rw [if_neg (by rw [decide_eq_true_eq]; omega)]
    have : ts.all (fun t => testL t d cur) = true := by
      rw [List.all_eq_true]
      intro t ht
      obtain ⟨j, hj, rfl⟩ := List.mem_iff_getElem.1 ht
      exact hpre j hj (by omega)
    have := this ▸ hk h' hf
    exact this
end
end Go.Proofs.Ytkmommchanjobaa
