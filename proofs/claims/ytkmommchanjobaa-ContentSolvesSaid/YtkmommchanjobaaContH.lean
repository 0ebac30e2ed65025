/-
  The search of package content, whole; Match.
-/
import Derived.Test.YtkmommchanjobaaContG
namespace Go.Proofs.Ytkmommchanjobaa
set_option linter.unusedSimpArgs false
set_option linter.unusedVariables false
open Go
theorem boundsL_fst (c : Cn) (hc : OkC c) (size cur : Int) (hs : 0 ≤ size ∧ size ≤ 2147483648) (hcur : 0 ≤ cur ∧ cur ≤ 2147483648) : 0 ≤ (boundsL c size cur).1 ∧ (boundsL c size cur).1 ≤ 3221225472 := by
  have := loL_bd hc hcur.1 hcur.2
  unfold boundsL; split
  · exact ⟨by simp, by simp⟩
  · simp only; unfold topL; split <;> omega
theorem boundsL_snd (c : Cn) (size cur : Int) (hs : 0 ≤ size) : (boundsL c size cur).2 ≤ size := by
  unfold boundsL; split
  · simp; omega
  · have : hiL c size cur ≤ size := by unfold hiL; split <;> (try split) <;> omega
    simp only; omega
section
variable {b : Nat} {La : Option Addr} {lc : Nat} {Ta : Option Addr} {tc : Nat} {cs : List Cn} {ts : List Ts} {d : List UInt8} {N : Nat}
theorem from_c [Gh] (hN : N < 2 ^ 40) (hd : d.length < 2 ^ 30) (hcl : cs.length < 2 ^ 40) (htl : ts.length < 2 ^ 40) (hok : ∀ c ∈ cs, OkC c) (hot : ∀ t ∈ ts, OkT t) :
    ∀ (rest : List Cn) (i : Nat), i ≤ cs.length → cs.drop i = rest → ∀ (cur : Int), 0 ≤ cur ∧ cur ≤ d.length → ∀ {h : Heap} {left : Nat}, SS h b La lc Ta tc cs ts d N left false → ∀ {Q : Value → Heap → Prop},
      (∀ h', SS h' b La lc Ta tc cs ts d N (solve d ts rest cur left).2.1 (solve d ts rest cur left).2.2 → Fr (· = b) h h' → Q (resV (solve d ts rest cur left)) h') →
      CallT Try.prog fn_content_search_from #[.pointer (some ⟨b, 0, none⟩), .int .i64 (i : Int), .int .i64 cur] h Q := by
  intro rest
  induction rest with
  | nil =>
    intro i hil he cur hcur h left s Q hk
    have hi : i = cs.length := by have := List.drop_eq_nil_iff.1 he; omega
    subst hi
    refine content_search_from_s _ _ _ ?_
    simp only [content_search_from_v, content_search_from_b1, content_search_from_b2, alV, nn, Array.size_push]
    have hb0 := s.lt
    have f1 := (Fr.push (fun _ => False) h (.cells #[.pointer (some ⟨b, 0, none⟩)] 48 (0, 0))).trans (Fr.push (fun _ => False) _ (.cells #[.int .i64 ((cs.length : Nat) : Int)] 3 (0, 0)))
    have e3 : ((h.push (.cells #[.pointer (some ⟨b, 0, none⟩)] 48 (0, 0))).push (.cells #[.int .i64 ((cs.length : Nat) : Int)] 3 (0, 0)))[h.size]? = some (.cells #[.pointer (some ⟨b, 0, none⟩)] 48 (0, 0)) := get_push get_push_self
    have e4 : ((h.push (.cells #[.pointer (some ⟨b, 0, none⟩)] 48 (0, 0))).push (.cells #[.int .i64 ((cs.length : Nat) : Int)] 3 (0, 0)))[h.size + 1]? = some (.cells #[.int .i64 ((cs.length : Nat) : Int)] 3 (0, 0)) := by
      have := get_push_self (h := h.push (.cells #[.pointer (some ⟨b, 0, none⟩)] 48 (0, 0))) (x := .cells #[.int .i64 ((cs.length : Nat) : Int)] 3 (0, 0))
      rw [Array.size_push] at this; exact this
    generalize ((h.push (.cells #[.pointer (some ⟨b, 0, none⟩)] 48 (0, 0))).push (.cells #[.int .i64 ((cs.length : Nat) : Int)] 3 (0, 0))) = h2 at *
    have s2 := s.fr f1
    obtain ⟨⟨t, hb⟩, hrc, hrt, hle⟩ := id s2
    refine ldI_mk (by rw [hcell_blk e4]; rfl) (ldP_mk (by rw [hcell_blk e3]; rfl) ?_)
    refine ldL_mk (p := La) (n := cs.length) (c := lc) (by rw [hcell_blk hb]; rfl) ?_
    rw [if_pos (by simp)]
    refine tests_c hot htl hd s2 ⟨_, e3⟩ cur hcur fun h3 f3 => ?_
    have := hk h3 (s2.fr f3) ((f1.trans f3).mono fun _ h => h.elim)
    unfold solve resV at this
    cases hall : ts.all (fun t => testL t d cur) with
    | true => rw [hall] at this; exact this
    | false => rw [hall] at this; exact this
  | cons c rest ih =>
    intro i hil he cur hcur h left s Q hk
    have hi : i < cs.length := by
      rcases Nat.lt_or_ge i cs.length with h | h
      · exact h
      · rw [List.drop_of_length_le h] at he; cases he
    have hec : cs[i] = c ∧ cs.drop (i + 1) = rest := by
      rw [List.drop_eq_getElem_cons hi] at he
      injection he with h1 h2; exact ⟨h1, h2⟩
    have hc : OkC c := by rw [← hec.1]; exact hok _ (List.getElem_mem hi)
    refine content_search_from_s _ _ _ ?_
    simp only [content_search_from_v, content_search_from_b1, content_search_from_b2, Array.size_push]
    simp only [alV, nn]
    have hb0 := s.lt
    have f1 := (Fr.push (fun _ => False) h (.cells #[.pointer (some ⟨b, 0, none⟩)] 48 (0, 0))).trans (Fr.push (fun _ => False) _ (.cells #[.int .i64 (i : Int)] 3 (0, 0)))
    have e3 : ((h.push (.cells #[.pointer (some ⟨b, 0, none⟩)] 48 (0, 0))).push (.cells #[.int .i64 (i : Int)] 3 (0, 0)))[h.size]? = some (.cells #[.pointer (some ⟨b, 0, none⟩)] 48 (0, 0)) := get_push get_push_self
    have e4 : ((h.push (.cells #[.pointer (some ⟨b, 0, none⟩)] 48 (0, 0))).push (.cells #[.int .i64 (i : Int)] 3 (0, 0)))[h.size + 1]? = some (.cells #[.int .i64 (i : Int)] 3 (0, 0)) := by
      have := get_push_self (h := h.push (.cells #[.pointer (some ⟨b, 0, none⟩)] 48 (0, 0))) (x := .cells #[.int .i64 (i : Int)] 3 (0, 0))
      rw [Array.size_push] at this; exact this
    have ez : (h.push (.cells #[.pointer (some ⟨b, 0, none⟩)] 48 (0, 0))).size = h.size + 1 := Array.size_push _
    rw [ez]
    generalize ((h.push (.cells #[.pointer (some ⟨b, 0, none⟩)] 48 (0, 0))).push (.cells #[.int .i64 (i : Int)] 3 (0, 0))) = h2 at *
    have s2 := s.fr f1
    have hlt3 := lt_of_get e3
    have hlt4 := lt_of_get e4
    obtain ⟨⟨t, hb⟩, hrc, hrt, hle⟩ := id s2
    obtain ⟨ad, hLa, hnb, r⟩ := hrc i hi
    rw [hec.1] at r
    refine ldI_mk (by rw [hcell_blk e4]; rfl) (ldP_mk (by rw [hcell_blk e3]; rfl) ?_)
    refine ldL_mk (p := La) (n := cs.length) (c := lc) (by rw [hcell_blk hb]; rfl) ?_
    rw [if_neg (by simp; omega)]
    simp only [content_search_from_b12, nn]
    refine ldP_mk (by rw [hcell_blk e3]; rfl) ?_
    refine ldL_mk (p := La) (n := cs.length) (c := lc) (by rw [hcell_blk hb]; rfl) ?_
    refine ldI_mk (by rw [hcell_blk e4]; rfl) ?_
    refine ⟨by omega, by omega, ?_⟩
    rw [hLa]
    simp only [Int.toNat_natCast]
    refine ldS_mk r.c0 (ldB_mk r.c1 (ldB_mk r.c2 (ldB_mk r.c3 (ldI_mk r.c4 (ldI_mk r.c5 (ldB_mk r.c6 ?_))))))
    unfold alV
    have fz := Fr.push (fun _ => False) h2 (.cells #[Value.string (⟨#[]⟩ : ByteArray), Value.bool false, Value.bool false, Value.bool false, Value.int .i64 (0 : Int), Value.int .i64 (0 : Int), Value.bool false] 23 (0, 0))
    have rz := r.fr fz id
    refine ⟨ldP_mk (by rw [hcell_blk (fz.get e3 id)]; rfl) rfl, ldL_mk (p := La) (n := cs.length) (c := lc) (by rw [hcell_blk (fz.get hb id)]; rfl) (by rw [hLa]), ldI_mk (by rw [hcell_blk (fz.get e4 id)]; rfl) rfl,
      ldS_mk rz.c0 (ldB_mk rz.c1 (ldB_mk rz.c2 (ldB_mk rz.c3 (ldI_mk rz.c4 (ldI_mk rz.c5 (ldB_mk rz.c6 rfl)))))), ?_⟩
    refine st_new (zs := [Value.string (⟨#[]⟩ : ByteArray), Value.bool false, Value.bool false, Value.bool false, Value.int .i64 (0 : Int), Value.int .i64 (0 : Int), Value.bool false]) (vs := cnV c) (t := 23)
      (by intro v hv; simp [cnV] at hv; rcases hv with rfl | rfl | rfl | rfl | rfl | rfl | rfl <;> rfl) rfl rfl (K := fun a h7 => content_search_from_b13 cur ⟨h.size, 0, none⟩ ⟨h.size + 1, 0, none⟩ a Q h7) ?_
    clear fz rz
    have fc := Fr.push (fun _ => False) h2 (.cells (cnV c).toArray 23 (0, 0))
    have hcn : CnAt (h2.push (.cells (cnV c).toArray 23 (0, 0))) ⟨h2.size, 0, none⟩ c := by
      constructor <;> (try rw [add_mk]) <;> rw [hcell_blk get_push_self] <;> rfl
    have hc10 : h2.size < (h2.push (.cells (cnV c).toArray 23 (0, 0))).size := by simp
    generalize h2.push (.cells (cnV c).toArray 23 (0, 0)) = h7 at *
    have e3' := fc.get e3 id
    have e4' := fc.get e4 id
    have hb' := fc.get hb id
    have s7 := s2.fr fc
    simp only [content_search_from_b13, nn]
    refine ldS_mk hcn.c0 (ldB_mk hcn.c1 (ldB_mk hcn.c2 (ldB_mk hcn.c3 (ldI_mk hcn.c4 (ldI_mk hcn.c5 (ldB_mk hcn.c6 ?_))))))
    refine ldP_mk (by rw [hcell_blk e3']; rfl) ?_
    refine ldS_mk (by rw [add_mk, hcell_blk hb']; rfl) ?_
    rw [bs_size]
    have hdI : 0 ≤ (d.length : Int) ∧ (d.length : Int) ≤ 2147483648 := by omega
    have hb1 := boundsL_fst c hc d.length cur hdI ⟨hcur.1, by omega⟩
    have hb2 := boundsL_snd c d.length cur hdI.1
    have hsolve : solve d ts (c :: rest) cur left = places d c (solve d ts rest) (fun left => if c.neg then solve d ts rest cur left else (none, left, false)) ((boundsL c d.length cur).2 - (boundsL c d.length cur).1 + 1).toNat (boundsL c d.length cur).1 left := rfl
    have z7 := (f1.trans fc).size
    have z2 := fc.size
    have z1 := f1.size
    have ih' := ih (i + 1) (by omega) hec.2
    rw [show (((i + 1 : Nat) : Int)) = (i : Int) + 1 by omega] at ih'
    have oldL := s.rc.lt
    have oldT := s.rt.lt
    -- what comes behind the bounds
    have tail : ∀ h9 at_, at_ < h9.size → h2.size < at_ → Fr (fun _ => False) h7 h9 → (∃ t x, h9[at_]? = some (.cells #[.int .i64 x] t (0, 0))) →
        st1 h9 ⟨at_, 0, none⟩ (Value.int .i64 (boundsL c d.length cur).1) fun h10 => content_search_from_b14 cur ⟨h.size, 0, none⟩ ⟨h.size + 1, 0, none⟩ ⟨h2.size, 0, none⟩ ⟨at_, 0, none⟩ (boundsL c d.length cur).2 Q h10 := by
      rintro h9 at_ hat hgt f9 ⟨ta, x, ha⟩
      refine ⟨rfl, by rw [hcell_blk ha]; rfl, hfrozen_blk ha, ?_⟩
      have f10 : Fr (· = at_) h9 (hset h9 ⟨at_, 0, none⟩ (.int .i64 (boundsL c d.length cur).1)) := (Fr.refl _ _).hset' (.inl rfl)
      have ha10 : (hset h9 ⟨at_, 0, none⟩ (.int .i64 (boundsL c d.length cur).1))[at_]? = some (.cells #[.int .i64 (boundsL c d.length cur).1] ta (0, 0)) := by simp only [nn, add_mk, ldI, ldB, ldS, ldP, ldL, ldM, ldV, hcell_mk, st1, stN, hfrozen_mk, hset_get, objSet, sliceSl, cellV, alV, push_get, and_assoc, objSet_cells, Option.isSome_some, Option.isSome_none, Option.isSome_map, Option.map_some, List.getElem?_toArray, List.getElem?_cons_zero, List.getElem?_cons_succ, List.getElem?_nil, List.setIfInBounds_toArray, List.set_cons_zero, List.set_cons_succ, Option.some.injEq, Value.int.injEq, Value.slice.injEq, Value.bool.injEq, Value.string.injEq, Value.pointer.injEq, Value.map.injEq, Value.agg.injEq, Value.tuple.injEq, true_and, and_true, if_true, if_false, ite_true, ite_false, Nat.reduceAdd, Nat.zero_add, Nat.add_zero, Nat.not_lt_zero, Nat.zero_le, decide_true, decide_false, Bool.and_false, Bool.false_eq_true, Bool.true_and, Bool.false_and, Nat.reduceLeDiff, Nat.reduceLT, Nat.le_refl, exists_eq_left', exists_eq_left, exists_eq_right, exists_and_left, exists_const, reduceCtorEq, false_and, and_false, Int.reduceToNat, Int.le_refl, ha]
      have f0 : Fr (fun _ => False) h (hset h9 ⟨at_, 0, none⟩ (.int .i64 (boundsL c d.length cur).1)) := (((f1.trans fc).trans f9).tr f10 fun x hx hxa => by omega)
      generalize hset h9 ⟨at_, 0, none⟩ (.int .i64 (boundsL c d.length cur).1) = h10 at *
      refine loop_c (rest := rest) (i := i) hN hd hcl hi hc hcur ih' (h0 := h) oldL oldT (left := left) (p := (boundsL c d.length cur).1)
        ⟨⟨_, f10.get (f9.get e3' id) (by omega)⟩, ⟨_, f10.get (f9.get e4' id) (by omega)⟩, (hcn.fr f9 id).fr f10 (by show ¬ h2.size = at_; omega), ⟨_, ha10⟩, f0.mono fun _ h => h.elim, ⟨by omega, by omega, by omega, by omega, by omega, by omega, by omega⟩, ⟨by omega, hb0⟩⟩
        (s.fr f0) ⟨hb1.1, by omega⟩ hb2 hsolve hk
    refine ⟨?_, ?_⟩
    · refine Bounds_c c d.length cur hc hdI ⟨hcur.1, by omega⟩ fun h8 f8 => ⟨_, _, rfl, ?_⟩
      have fp := Fr.push (fun _ => False) h8 (.cells #[.int .i64 (0 : Int)] 3 (0, 0))
      have z8 := f8.size
      unfold alV
      have f9 := f8.trans fp
      have c9 := hcn.fr f9 id
      refine ⟨ldS_mk c9.c0 (ldB_mk c9.c1 (ldB_mk c9.c2 (ldB_mk c9.c3 (ldI_mk c9.c4 (ldI_mk c9.c5 (ldB_mk c9.c6 rfl)))))), ldP_mk (by rw [hcell_blk (f9.get e3' id)]; rfl) rfl, ldS_mk (by rw [add_mk, hcell_blk (f9.get hb' id)]; rfl) rfl, ?_⟩
      exact tail _ h8.size (by simp) (by omega) f9 ⟨3, 0, get_push_self⟩
    · have fp := Fr.push (fun _ => False) h7 (.cells #[.int .i64 (0 : Int)] 3 (0, 0))
      unfold alV
      have c9 := hcn.fr fp id
      refine ⟨ldS_mk c9.c0 (ldB_mk c9.c1 (ldB_mk c9.c2 (ldB_mk c9.c3 (ldI_mk c9.c4 (ldI_mk c9.c5 (ldB_mk c9.c6 rfl)))))), ldP_mk (by rw [hcell_blk (fp.get e3' id)]; rfl) rfl, ldS_mk (by rw [add_mk, hcell_blk (fp.get hb' id)]; rfl) rfl, ?_⟩
      refine Bounds_c c d.length cur hc hdI ⟨hcur.1, by omega⟩ fun h8 f8 => ⟨_, _, rfl, ?_⟩
      have z8 := f8.size
      have hsz : (h7.push (.cells #[.int .i64 (0 : Int)] 3 (0, 0))).size = h7.size + 1 := Array.size_push _
      exact tail _ h7.size (by omega) (by omega) (fp.trans f8) ⟨3, 0, f8.get get_push_self id⟩
theorem rdC_mono {S S' : Nat → Prop} {h : Heap} {r : Option Addr} {cs : List Cn} (x : RdC S h r cs) (hs : ∀ ad, r = some ad → 0 < cs.length → ¬ S' ad.block) : RdC S' h r cs := fun i hi => by
  obtain ⟨ad, h1, h2, h3⟩ := x i hi
  exact ⟨ad, h1, hs ad h1 (by omega), h3⟩
theorem rdT_mono {S S' : Nat → Prop} {h : Heap} {r : Option Addr} {cs : List Ts} (x : RdT S h r cs) (hs : ∀ ad, r = some ad → 0 < cs.length → ¬ S' ad.block) : RdT S' h r cs := fun i hi => by
  obtain ⟨ad, h1, h2, h3⟩ := x i hi
  exact ⟨ad, h1, hs ad h1 (by omega), h3⟩
def stepsL (budget : Int) : Nat := budget.toNat
/-- What Match returns. -/
def matchV (r : Res) (N : Nat) : Value :=
  if r.2.2 then .tuple #[.bool false, .int .i64 0, .int .i64 N, .int .i64 16]
  else .tuple #[.bool r.1.isSome, .int .i64 (r.1.getD 0), .int .i64 ((N - r.2.1 : Nat) : Int), .int .i64 0]
theorem Match_c [Gh] (hd : d.length < 2 ^ 30) (hcl : cs.length < 2 ^ 40) (htl : ts.length < 2 ^ 40) (hok : ∀ c ∈ cs, OkC c) (hot : ∀ t ∈ ts, OkT t) (budget : Int) (hbud : budget < 2 ^ 40) {h : Heap} (rc : RdC (fun _ => False) h La cs) (rt : RdT (fun _ => False) h Ta ts) {Q : Value → Heap → Prop}
    (hk : ∀ h', Fr (fun _ => False) h h' → Q (matchV (solve d ts cs 0 (stepsL budget)) (stepsL budget)) h') :
    CallT Try.prog fn_content_Match #[.slice La cs.length lc, .slice Ta ts.length tc, .string (bs d), .int .i64 budget] h Q := by
  refine content_Match_s _ _ _ _ _ _ _ _ ?_
  simp only [content_Match_b5, content_Match_b6, content_Match_b4, content_Match_b3, content_Match_b2, content_Match_b1, content_Match_v]
  unfold alV
  have eb : (if (0 : Int) > budget then (0 : Int) else budget) = ((stepsL budget : Nat) : Int) := by unfold stepsL; split <;> omega
  have hN : stepsL budget < 2 ^ 40 := by unfold stepsL; omega
  rw [eb]
  generalize stepsL budget = N at *
  have fp := Fr.push (fun _ => False) h (.cells #[.slice La cs.length lc, .slice Ta ts.length tc, .string (bs d), .int .i64 (N : Int), .int .i64 (0 : Int), .bool false] 50 (0, 0))
  have hb : (h.push (.cells #[.slice La cs.length lc, .slice Ta ts.length tc, .string (bs d), .int .i64 (N : Int), .int .i64 (0 : Int), .bool false] 50 (0, 0)))[h.size]? = some (.cells #[.slice La cs.length lc, .slice Ta ts.length tc, .string (bs d), .int .i64 (N : Int), .int .i64 (0 : Int), .bool false] 50 (0, 0)) := get_push_self
  generalize h.push (.cells #[.slice La cs.length lc, .slice Ta ts.length tc, .string (bs d), .int .i64 (N : Int), .int .i64 (0 : Int), .bool false] 50 (0, 0)) = h1 at *
  have s1 : SS h1 h.size La lc Ta tc cs ts d N N false := by
    refine ⟨⟨50, by rw [hb]; simp⟩, rdC_mono (rc.fr fp fun _ h => h) fun ad ha hc => ?_, rdT_mono (rt.fr fp fun _ h => h) fun ad ha hc => ?_, Nat.le_refl _⟩
    · have := rc.lt ad ha hc; omega
    · have := rt.lt ad ha hc; omega
  refine from_c hN hd hcl htl hok hot cs 0 (Nat.zero_le _) rfl 0 ⟨by omega, by omega⟩ s1 fun h2 s2 f2 => ⟨_, _, rfl, ?_⟩
  generalize solve d ts cs 0 N = r at *
  obtain ⟨re, rl, ro⟩ := r
  obtain ⟨⟨t, hb2⟩, _, _, hle⟩ := s2
  have f02 : Fr (fun _ => False) h h2 := fp.tr f2 fun x hx hxa => by omega
  have hk := hk h2 f02
  unfold matchV at hk
  refine ldB_mk (by rw [add_mk, hcell_blk hb2]; rfl) ?_
  cases ro with
  | true =>
    rw [if_pos rfl]
    rw [if_pos (by rfl)] at hk
    exact ldI_mk (by rw [add_mk, hcell_blk hb2]; rfl) hk
  | false =>
    rw [if_neg (by simp)]
    rw [if_neg (by simp)] at hk
    exact ldI_mk (by rw [add_mk, hcell_blk hb2]; rfl) hk
end
end Go.Proofs.Ytkmommchanjobaa
