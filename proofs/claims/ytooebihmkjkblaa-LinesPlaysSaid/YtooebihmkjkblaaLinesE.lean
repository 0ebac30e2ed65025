/-
  Feed of the splitter.
-/
import Derived.Test.YtooebihmkjkblaaLinesD
import Derived.Laws.Externs
namespace Go.Proofs.Ytooebihmkjkblaa
set_option linter.unusedSimpArgs false
set_option linter.unusedVariables false
open Go
def idx10 (l : List UInt8) : Option Nat := l.findIdx? (· == 10)
theorem find_range (l : List UInt8) : (List.range l.length).find? (fun i => l.getD i 0 == 10) = idx10 l := by
  unfold idx10
  induction l with
  | nil => rfl
  | cons x l ih =>
    rw [List.length_cons, List.range_succ_eq_map, List.find?_cons, List.findIdx?_cons]
    by_cases hx : (x == 10) = true
    · simp [hx]
    · have hx' : (x == 10) = false := by simpa using hx
      simp only [List.getD_cons_zero, hx', List.find?_map, Bool.false_eq_true, if_false]
      rw [← ih]
      congr 1
theorem firstIdx_bs (l : List UInt8) : firstIdx (bs l) 10 = match idx10 l with | some i => (i : Int) | none => -1 := by
  unfold firstIdx
  have : (fun i => (bs l)[i]! == 10) = (fun i => l.getD i 0 == 10) := by
    funext i
    congr 1
    have e : (bs l)[i]! = l.toArray[i]! := by
      by_cases h : i < l.length
      · have h1 : i < (bs l).size := by rw [bs_size]; exact h
        rw [getElem!_pos (bs l) i h1, getElem!_pos l.toArray i (by simpa using h)]; rfl
      · have h1 : ¬ i < (bs l).size := by rw [bs_size]; exact h
        rw [getElem!_neg (bs l) i h1, getElem!_neg l.toArray i (by simpa using h)]
    rw [e]; simp [List.getD_eq_getElem?_getD]; rfl
  rw [this, bs_size, find_range]
  cases idx10 l <;> rfl
theorem extIndex_c [Gh] (l : List UInt8) {h : Heap} {Q : Value → Heap → Prop} (hk : Q (.int .i64 (match idx10 l with | some i => (i : Int) | none => -1)) h) :
    CallT Try.prog fn_internal_bytealg_IndexByteString #[.string (bs l), .int .u8 10] h Q := by
  rintro w rfl hs
  rw [run_callFunc_extern (fn := Try.f30) (e := Extern.BytealgIndexByte.indexByte) rfl (by kernel_rfl) (by kernel_rfl) (by kernel_rfl) (by kernel_rfl), run_indexByte_string]
  simp only [Result.andThen]
  have : (10 : Int).toNat.toUInt8 = 10 := rfl
  rw [this, firstIdx_bs]; exact ⟨hk, hs⟩
theorem IndexByte_c [Gh] (l : List UInt8) {h : Heap} {Q : Value → Heap → Prop} (hk : Q (.int .i64 (match idx10 l with | some i => (i : Int) | none => -1)) h) :
    CallT Try.prog fn_strings_IndexByte #[.string (bs l), .int .u8 10] h Q := by
  refine strings_IndexByte_s _ _ ?_
  simp only [strings_IndexByte_b2, strings_IndexByte_b1, strings_IndexByte_v]
  refine internal_stringslite_IndexByte_s _ _ ?_
  simp only [internal_stringslite_IndexByte_b2, internal_stringslite_IndexByte_b1, internal_stringslite_IndexByte_v]
  exact extIndex_c l ⟨_, rfl, _, rfl, hk⟩
theorem idx10_none {l : List UInt8} (h : idx10 l = none) : ∀ x ∈ l, x ≠ 10 := by
  unfold idx10 at h
  rw [List.findIdx?_eq_none_iff] at h
  intro x hx hx10; have := h x hx; simp [hx10] at this
theorem idx10_some {l : List UInt8} {i : Nat} (h : idx10 l = some i) : ∃ r, l = l.take i ++ 10 :: r ∧ (∀ x ∈ l.take i, x ≠ 10) ∧ l.drop (i + 1) = r ∧ i < l.length := by
  unfold idx10 at h
  rw [List.findIdx?_eq_some_iff_getElem] at h
  obtain ⟨hi, h1, h2⟩ := h
  refine ⟨l.drop (i + 1), ?_, ?_, rfl, hi⟩
  · have e : l[i] = 10 := by simpa using h1
    conv => lhs; rw [← List.take_append_drop i l, List.drop_eq_getElem_cons hi, e]
  · intro x hx
    obtain ⟨j, hj, rfl⟩ := List.mem_iff_getElem.1 hx
    rw [List.length_take] at hj
    rw [List.getElem_take]
    have := h2 j (by omega)
    simpa using this
theorem t31 : ElemT Try.prog 31 38 Try.t38 (.agg #[.string ⟨#[]⟩, .bool false]) := ⟨rfl, rfl, rfl, rfl, by decide⟩
/-- What holds while Feed goes through its text. -/
structure FI (h0 : Heap) (b : Nat) (a0 : Option Addr) (mx xs xp xo : Nat) (B rest : List UInt8) (out : List (List UInt8 × Bool)) (h : Heap) : Prop where
  s : ∃ t, h[xs]? = some (.cells #[.string (bs rest)] t (0, 0))
  p : ∃ t, h[xp]? = some (.cells #[.pointer (some ⟨b, 0, none⟩)] t (0, 0))
  o : ∃ r c t, h[xo]? = some (.cells #[.slice r out.length c] t (0, 0)) ∧ OwnC h r c 2 (linesV out) ∧ out.length ≤ c ∧ (∀ x, InA r x → h0.size ≤ x ∧ x ≠ xs ∧ x ≠ xp ∧ x ≠ xo) ∧
    ∃ a, SplS h b a mx B ∧ (∀ x, InA a x → InA a0 x ∨ h0.size ≤ x) ∧ (∀ x, InA a x → x ≠ xs ∧ x ≠ xp ∧ x ≠ xo ∧ ¬ InA r x)
  fr : Fr (Own b a0) h0 h
  ne : xs ≠ xp ∧ xs ≠ xo ∧ xp ≠ xo
  new : h0.size ≤ xs ∧ h0.size ≤ xp ∧ h0.size ≤ xo
  old : b < h0.size
  small : out.length + rest.length < 2 ^ 38 ∧ B.length + rest.length < 2 ^ 38
theorem step_c [Gh] {h0 h : Heap} {b mx xs xp xo : Nat} {a0 : Option Addr} {B rest : List UInt8} {out : List (List UInt8 × Bool)} (I : FI h0 b a0 mx xs xp xo B rest out h) {Q : Value → Heap → Prop}
    (hno : idx10 rest = none → Q (.bool false) h)
    (hyes : ∀ i h', idx10 rest = some i → FI h0 b a0 mx xs xp xo [] (rest.drop (i + 1)) (out ++ [lineL mx (bareL (B ++ rest.take i))]) h' → Q (.bool true) h') :
    CallT Try.prog fn_lines_Splitter_Feed_1 #[.pointer (some ⟨xs, 0, none⟩), .pointer (some ⟨xp, 0, none⟩), .pointer (some ⟨xo, 0, none⟩)] h Q := by
  obtain ⟨⟨ts, hs⟩, ⟨tp, hp⟩, ⟨r, c, to, ho, hown, hc, hr, a, sp, ha0, ha⟩, hfr, ⟨n1, n2, n3⟩, ⟨w1, w2, w3⟩, hold, hsm1, hsm2⟩ := I
  refine lines_Splitter_Feed_1_s _ _ _ ?_
  simp only [lines_Splitter_Feed_1_b4, lines_Splitter_Feed_1_b8, lines_Splitter_Feed_1_b7, lines_Splitter_Feed_1_b6, lines_Splitter_Feed_1_b5, lines_Splitter_Feed_1_b3, lines_Splitter_Feed_1_b2, lines_Splitter_Feed_1_b1, lines_Splitter_Feed_1_v]
  simp only [nn, add_mk, ldI, ldB, ldS, ldP, ldL, ldM, ldV, hcell_mk, st1, stN, hfrozen_mk, hset_get, objSet, sliceSl, cellV, alV, push_get, and_assoc, objSet_cells, Option.isSome_some, Option.isSome_none, Option.isSome_map, Option.map_some, List.getElem?_toArray, List.getElem?_cons_zero, List.getElem?_cons_succ, List.getElem?_nil, List.setIfInBounds_toArray, List.set_cons_zero, List.set_cons_succ, Option.some.injEq, Value.int.injEq, Value.slice.injEq, Value.bool.injEq, Value.string.injEq, Value.pointer.injEq, Value.map.injEq, Value.agg.injEq, Value.tuple.injEq, true_and, and_true, if_true, if_false, ite_true, ite_false, Nat.reduceAdd, Nat.zero_add, Nat.add_zero, Nat.not_lt_zero, Nat.zero_le, decide_true, decide_false, Bool.and_false, Bool.false_eq_true, Bool.true_and, Bool.false_and, Nat.reduceLeDiff, Nat.reduceLT, Nat.le_refl, exists_eq_left', exists_eq_left, exists_eq_right, exists_and_left, exists_const, reduceCtorEq, false_and, and_false, Int.reduceToNat, Int.le_refl, hs, hp, ho]
  refine IndexByte_c rest ⟨_, rfl, ?_⟩
  cases hi : idx10 rest with
  | none =>
    simp only
    rw [if_pos (by decide)]
    exact hno hi
  | some i =>
    obtain ⟨r', hr', hn10, hd, hlt⟩ := idx10_some hi
    simp only
    have hneg : ¬ decide ((i : Int) < 0) = true := by rw [decide_eq_true_eq]; omega
    rw [if_neg hneg]
    simp only [nn, add_mk, ldI, ldB, ldS, ldP, ldL, ldM, ldV, hcell_mk, st1, stN, hfrozen_mk, hset_get, objSet, sliceSl, cellV, alV, push_get, and_assoc, objSet_cells, Option.isSome_some, Option.isSome_none, Option.isSome_map, Option.map_some, List.getElem?_toArray, List.getElem?_cons_zero, List.getElem?_cons_succ, List.getElem?_nil, List.setIfInBounds_toArray, List.set_cons_zero, List.set_cons_succ, Option.some.injEq, Value.int.injEq, Value.slice.injEq, Value.bool.injEq, Value.string.injEq, Value.pointer.injEq, Value.map.injEq, Value.agg.injEq, Value.tuple.injEq, true_and, and_true, if_true, if_false, ite_true, ite_false, Nat.reduceAdd, Nat.zero_add, Nat.add_zero, Nat.not_lt_zero, Nat.zero_le, decide_true, decide_false, Bool.and_false, Bool.false_eq_true, Bool.true_and, Bool.false_and, Nat.reduceLeDiff, Nat.reduceLT, Nat.le_refl, exists_eq_left', exists_eq_left, exists_eq_right, exists_and_left, exists_const, reduceCtorEq, false_and, and_false, Int.reduceToNat, Int.le_refl, hs, hp, ho]
    refine ⟨by omega, by rw [bs_size]; omega, ?_⟩
    rw [Int.toNat_natCast, bs_take]
    have hti : (rest.take i).length = i := by rw [List.length_take]; omega
    refine append_c sp _ (by rw [List.length_append, hti]; omega) fun h1 a1 sp1 f1 hn1 => ⟨rfl, ?_⟩
    have nb : ∀ x, h0.size ≤ x → x ≠ b := fun x hx hxb => by omega
    have k1 : ∀ x, (x = xs ∨ x = xp ∨ x = xo ∨ InA r x) → ¬ Own b a x := by
      rintro x hx (rfl | hxa)
      · rcases hx with rfl | rfl | rfl | hx <;> first | omega | (have := (hr _ hx).1; omega)
      · have := ha x hxa
        rcases hx with rfl | rfl | rfl | hx
        · exact this.1 rfl
        · exact this.2.1 rfl
        · exact this.2.2.1 rfl
        · exact this.2.2.2 hx
    have hs1 := f1.get hs (k1 xs (.inl rfl))
    have hp1 := f1.get hp (k1 xp (.inr (.inl rfl)))
    have ho1 := f1.get ho (k1 xo (.inr (.inr (.inl rfl))))
    have hown1 := hown.fr f1 (fun x hx => k1 x (.inr (.inr (.inr hx))))
    simp only [nn, add_mk, ldI, ldB, ldS, ldP, ldL, ldM, ldV, hcell_mk, st1, stN, hfrozen_mk, hset_get, objSet, sliceSl, cellV, alV, push_get, and_assoc, objSet_cells, Option.isSome_some, Option.isSome_none, Option.isSome_map, Option.map_some, List.getElem?_toArray, List.getElem?_cons_zero, List.getElem?_cons_succ, List.getElem?_nil, List.setIfInBounds_toArray, List.set_cons_zero, List.set_cons_succ, Option.some.injEq, Value.int.injEq, Value.slice.injEq, Value.bool.injEq, Value.string.injEq, Value.pointer.injEq, Value.map.injEq, Value.agg.injEq, Value.tuple.injEq, true_and, and_true, if_true, if_false, ite_true, ite_false, Nat.reduceAdd, Nat.zero_add, Nat.add_zero, Nat.not_lt_zero, Nat.zero_le, decide_true, decide_false, Bool.and_false, Bool.false_eq_true, Bool.true_and, Bool.false_and, Nat.reduceLeDiff, Nat.reduceLT, Nat.le_refl, exists_eq_left', exists_eq_left, exists_eq_right, exists_and_left, exists_const, reduceCtorEq, false_and, and_false, Int.reduceToNat, Int.le_refl, hp1, ho1]
    refine lenS_c sp1 ⟨_, rfl, ?_⟩
    simp only [nn, add_mk, ldI, ldB, ldS, ldP, ldL, ldM, ldV, hcell_mk, st1, stN, hfrozen_mk, hset_get, objSet, sliceSl, cellV, alV, push_get, and_assoc, objSet_cells, Option.isSome_some, Option.isSome_none, Option.isSome_map, Option.map_some, List.getElem?_toArray, List.getElem?_cons_zero, List.getElem?_cons_succ, List.getElem?_nil, List.setIfInBounds_toArray, List.set_cons_zero, List.set_cons_succ, Option.some.injEq, Value.int.injEq, Value.slice.injEq, Value.bool.injEq, Value.string.injEq, Value.pointer.injEq, Value.map.injEq, Value.agg.injEq, Value.tuple.injEq, true_and, and_true, if_true, if_false, ite_true, ite_false, Nat.reduceAdd, Nat.zero_add, Nat.add_zero, Nat.not_lt_zero, Nat.zero_le, decide_true, decide_false, Bool.and_false, Bool.false_eq_true, Bool.true_and, Bool.false_and, Nat.reduceLeDiff, Nat.reduceLT, Nat.le_refl, exists_eq_left', exists_eq_left, exists_eq_right, exists_and_left, exists_const, reduceCtorEq, false_and, and_false, Int.reduceToNat, Int.le_refl, hp1, ho1]
    have hbl := bareL_le (B ++ rest.take i)
    rw [List.length_append, hti] at hbl
    refine line_c sp1 _ (by omega) (by omega) fun h2 sp2 f2 => ⟨_, _, rfl, ?_⟩
    have hs2 := f2.get hs1 (nb xs w1)
    have hp2 := f2.get hp1 (nb xp w2)
    have ho2 := f2.get ho1 (nb xo w3)
    have hown2 := hown1.fr f2 (fun x hx => nb x (hr x hx).1)
    have own0 : ∀ x, x < h0.size → Own b a x → Own b a0 x := fun x hx hxo => by
      rcases hxo with rfl | hxo
      · exact .inl rfl
      · rcases ha0 x hxo with hx' | hx'
        · exact .inr hx'
        · omega
    have f02 : Fr (Own b a0) h0 h2 := (hfr.tr f1 own0).tr f2 fun x _ hx => .inl hx
    have hxo2 : ¬ xo = h2.size := Nat.ne_of_lt (lt_of_get ho2)
    simp only [nn, add_mk, ldI, ldB, ldS, ldP, ldL, ldM, ldV, hcell_mk, st1, stN, hfrozen_mk, hset_get, objSet, sliceSl, cellV, alV, push_get, and_assoc, objSet_cells, Option.isSome_some, Option.isSome_none, Option.isSome_map, Option.map_some, List.getElem?_toArray, List.getElem?_cons_zero, List.getElem?_cons_succ, List.getElem?_nil, List.setIfInBounds_toArray, List.set_cons_zero, List.set_cons_succ, Option.some.injEq, Value.int.injEq, Value.slice.injEq, Value.bool.injEq, Value.string.injEq, Value.pointer.injEq, Value.map.injEq, Value.agg.injEq, Value.tuple.injEq, true_and, and_true, if_true, if_false, ite_true, ite_false, Nat.reduceAdd, Nat.zero_add, Nat.add_zero, Nat.not_lt_zero, Nat.zero_le, decide_true, decide_false, Bool.and_false, Bool.false_eq_true, Bool.true_and, Bool.false_and, Nat.reduceLeDiff, Nat.reduceLT, Nat.le_refl, exists_eq_left', exists_eq_left, exists_eq_right, exists_and_left, exists_const, reduceCtorEq, false_and, and_false, Int.reduceToNat, Int.le_refl, ho2, hxo2]
    have e1 : (B ++ rest.take i).take (min ((bareL (B ++ rest.take i)).length : Int).toNat mx) = (bareL (B ++ rest.take i)).take mx := by
      rw [Int.toNat_natCast, Nat.min_comm, ← List.take_take, bareL_take]
    have e2 : decide (((bareL (B ++ rest.take i)).length : Int) > mx) = decide (mx < (bareL (B ++ rest.take i)).length) := by rw [decide_eq_decide]; omega
    rw [e1, e2]
    generalize hh3 : h2.push (Obj.cells #[Value.string (bs ((bareL (B ++ rest.take i)).take mx)), Value.bool (decide (mx < (bareL (B ++ rest.take i)).length))] 38) = h3
    have f3 : Fr (fun _ => False) h2 h3 := by rw [← hh3]; exact Fr.push _ _ _
    have hl3 : h3[h2.size]? = some (Obj.cells #[Value.string (bs ((bareL (B ++ rest.take i)).take mx)), Value.bool (decide (mx < (bareL (B ++ rest.take i)).length))] 38 (0, 0)) := by rw [← hh3]; exact get_push_self
    have hown3 := hown2.fr f3 (fun _ _ => id)
    refine append_own t31 (xT := 31) (d := .slice 38) rfl (by simp) (m := 1) (xs := linesV [lineL mx (bareL (B ++ rest.take i))]) hown3 (linesV_len _) hc (.sl _ _ _ _ rfl ?_) (linesV_cellV _) ?_ ?_
    · intro j hj
      rw [add_mk, hcell_blk hl3, Nat.zero_add]
      match j, hj with
      | 0, _ => rfl
      | 1, _ => rfl
    · show _ * 24 ≤ _
      omega
    · intro r4 c4 h4 hown4 hc4 f4 hn4
      have g3 : ∀ {x o}, h2[x]? = some o → h3[x]? = some o := fun hx => f3.get hx id
      have nr : ∀ x, (x = xs ∨ x = xp ∨ x = xo) → ¬ InA r x := fun x hx hxr => by
        have := hr x hxr; omega
      have hs4 := f4.get (g3 hs2) (nr xs (.inl rfl))
      have hp4 := f4.get (g3 hp2) (nr xp (.inr (.inl rfl)))
      have ho4 := f4.get (g3 ho2) (nr xo (.inr (.inr rfl)))
      have n2' : ¬ xo = xs := fun h => n2 h.symm
      refine ⟨_, _, _, rfl, ?_⟩
      simp only [nn, add_mk, ldI, ldB, ldS, ldP, ldL, ldM, ldV, hcell_mk, st1, stN, hfrozen_mk, hset_get, objSet, sliceSl, cellV, alV, push_get, and_assoc, objSet_cells, Option.isSome_some, Option.isSome_none, Option.isSome_map, Option.map_some, List.getElem?_toArray, List.getElem?_cons_zero, List.getElem?_cons_succ, List.getElem?_nil, List.setIfInBounds_toArray, List.set_cons_zero, List.set_cons_succ, Option.some.injEq, Value.int.injEq, Value.slice.injEq, Value.bool.injEq, Value.string.injEq, Value.pointer.injEq, Value.map.injEq, Value.agg.injEq, Value.tuple.injEq, true_and, and_true, if_true, if_false, ite_true, ite_false, Nat.reduceAdd, Nat.zero_add, Nat.add_zero, Nat.not_lt_zero, Nat.zero_le, decide_true, decide_false, Bool.and_false, Bool.false_eq_true, Bool.true_and, Bool.false_and, Nat.reduceLeDiff, Nat.reduceLT, Nat.le_refl, exists_eq_left', exists_eq_left, exists_eq_right, exists_and_left, exists_const, reduceCtorEq, false_and, and_false, Int.reduceToNat, Int.le_refl, hs4, ho4, n2']
      rw [wr (by omega) (by omega)]
      refine ⟨by omega, by rw [bs_size]; omega, ?_⟩
      have e3 : ((i : Int) + 1).toNat = i + 1 := by omega
      rw [e3, bs_size, bs_drop]
      show Q (Value.bool true) _
      generalize hh5 : hset (hset h4 ⟨xo, 0, none⟩ (Value.slice r4 (out.length + 1) c4)) ⟨xs, 0, none⟩ (Value.string (bs (rest.drop (i + 1)))) = h5
      have f5 : Fr (fun x => x = xo ∨ x = xs) h4 h5 := by rw [← hh5]; exact ((Fr.refl (fun x => x = xo ∨ x = xs) _).hset' (.inl (.inl rfl))).hset' (.inl (.inr rfl))
      have z1 := hfr.size
      have z2 := f1.size
      have z3 := f2.size
      have z4 := f3.size
      have hr4 : ∀ x, InA r4 x → h0.size ≤ x ∧ x ≠ xs ∧ x ≠ xp ∧ x ≠ xo := fun x hx => by
        rcases hn4 x hx with hx | hx
        · exact hr x hx
        · have := lt_of_get hs2; have := lt_of_get hp2; have := lt_of_get ho2
          omega
      have ha1 : ∀ x, InA a1 x → (InA a0 x ∨ h0.size ≤ x) ∧ x ≠ xs ∧ x ≠ xp ∧ x ≠ xo ∧ ¬ InA r x ∧ x < h2.size := fun x hx => by
        have hlt := sp2.lt (.inr hx)
        rcases hn1 x hx with hx | hx
        · exact ⟨ha0 x hx, (ha x hx).1, (ha x hx).2.1, (ha x hx).2.2.1, (ha x hx).2.2.2, hlt⟩
        · have := lt_of_get hs; have := lt_of_get hp; have := lt_of_get ho
          exact ⟨.inr (by omega), by omega, by omega, by omega, fun hxr => by have := hown.lt hxr; omega, hlt⟩
      have sp5 : SplS h5 b a1 mx [] := ((sp2.fr f3 (fun _ _ => id)).fr f4 (fun x hx hxr => by
        rcases hx with rfl | hx
        · have := (hr _ hxr).1; omega
        · exact (ha1 x hx).2.2.2.2.1 hxr)).fr f5 (fun x hx hx5 => by
        rcases hx with rfl | hx
        · omega
        · have := ha1 x hx; omega)
      refine hyes i h5 hi ⟨⟨ts, ?_⟩, ⟨tp, ?_⟩, ⟨r4, c4, to, ?_, ?_, ?_, hr4, a1, sp5, fun x hx => (ha1 x hx).1, fun x hx => ⟨(ha1 x hx).2.1, (ha1 x hx).2.2.1, (ha1 x hx).2.2.2.1, fun hx4 => ?_⟩⟩, ?_, ⟨n1, n2, n3⟩, ⟨w1, w2, w3⟩, hold, ?_⟩
      · rw [← hh5]; simp only [nn, add_mk, ldI, ldB, ldS, ldP, ldL, ldM, ldV, hcell_mk, st1, stN, hfrozen_mk, hset_get, objSet, sliceSl, cellV, alV, push_get, and_assoc, objSet_cells, Option.isSome_some, Option.isSome_none, Option.isSome_map, Option.map_some, List.getElem?_toArray, List.getElem?_cons_zero, List.getElem?_cons_succ, List.getElem?_nil, List.setIfInBounds_toArray, List.set_cons_zero, List.set_cons_succ, Option.some.injEq, Value.int.injEq, Value.slice.injEq, Value.bool.injEq, Value.string.injEq, Value.pointer.injEq, Value.map.injEq, Value.agg.injEq, Value.tuple.injEq, true_and, and_true, if_true, if_false, ite_true, ite_false, Nat.reduceAdd, Nat.zero_add, Nat.add_zero, Nat.not_lt_zero, Nat.zero_le, decide_true, decide_false, Bool.and_false, Bool.false_eq_true, Bool.true_and, Bool.false_and, Nat.reduceLeDiff, Nat.reduceLT, Nat.le_refl, exists_eq_left', exists_eq_left, exists_eq_right, exists_and_left, exists_const, reduceCtorEq, false_and, and_false, Int.reduceToNat, Int.le_refl, hs4, n2']
      · have n1' : ¬ xs = xp := n1
        have n3' : ¬ xo = xp := fun h => n3 h.symm
        rw [← hh5]; simp only [nn, add_mk, ldI, ldB, ldS, ldP, ldL, ldM, ldV, hcell_mk, st1, stN, hfrozen_mk, hset_get, objSet, sliceSl, cellV, alV, push_get, and_assoc, objSet_cells, Option.isSome_some, Option.isSome_none, Option.isSome_map, Option.map_some, List.getElem?_toArray, List.getElem?_cons_zero, List.getElem?_cons_succ, List.getElem?_nil, List.setIfInBounds_toArray, List.set_cons_zero, List.set_cons_succ, Option.some.injEq, Value.int.injEq, Value.slice.injEq, Value.bool.injEq, Value.string.injEq, Value.pointer.injEq, Value.map.injEq, Value.agg.injEq, Value.tuple.injEq, true_and, and_true, if_true, if_false, ite_true, ite_false, Nat.reduceAdd, Nat.zero_add, Nat.add_zero, Nat.not_lt_zero, Nat.zero_le, decide_true, decide_false, Bool.and_false, Bool.false_eq_true, Bool.true_and, Bool.false_and, Nat.reduceLeDiff, Nat.reduceLT, Nat.le_refl, exists_eq_left', exists_eq_left, exists_eq_right, exists_and_left, exists_const, reduceCtorEq, false_and, and_false, Int.reduceToNat, Int.le_refl, hp4, n1', n3']
      · rw [← hh5]; simp only [nn, add_mk, ldI, ldB, ldS, ldP, ldL, ldM, ldV, hcell_mk, st1, stN, hfrozen_mk, hset_get, objSet, sliceSl, cellV, alV, push_get, and_assoc, objSet_cells, Option.isSome_some, Option.isSome_none, Option.isSome_map, Option.map_some, List.getElem?_toArray, List.getElem?_cons_zero, List.getElem?_cons_succ, List.getElem?_nil, List.setIfInBounds_toArray, List.set_cons_zero, List.set_cons_succ, Option.some.injEq, Value.int.injEq, Value.slice.injEq, Value.bool.injEq, Value.string.injEq, Value.pointer.injEq, Value.map.injEq, Value.agg.injEq, Value.tuple.injEq, true_and, and_true, if_true, if_false, ite_true, ite_false, Nat.reduceAdd, Nat.zero_add, Nat.add_zero, Nat.not_lt_zero, Nat.zero_le, decide_true, decide_false, Bool.and_false, Bool.false_eq_true, Bool.true_and, Bool.false_and, Nat.reduceLeDiff, Nat.reduceLT, Nat.le_refl, exists_eq_left', exists_eq_left, exists_eq_right, exists_and_left, exists_const, reduceCtorEq, false_and, and_false, Int.reduceToNat, Int.le_refl, ho4, n2]
        simp
      · rw [linesV_append]
        exact hown4.fr f5 (fun x hx hx5 => by have := hr4 x hx; omega)
      · simp; omega
      · rcases hn4 x hx4 with hx4 | hx4
        · exact (ha1 x hx).2.2.2.2.1 hx4
        · have := (ha1 x hx).2.2.2.2.2; omega
      · refine ((f02.tr f3 (fun _ _ h => h.elim)).tr f4 (fun x hx hxr => ?_)).tr f5 (fun x hx hx5 => ?_)
        · have := (hr x hxr).1; omega
        · omega
      · simp only [List.length_append, List.length_cons, List.length_nil, List.length_drop]; omega
end Go.Proofs.Ytooebihmkjkblaa
