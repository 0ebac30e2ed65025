/-
  The laws ChunkedSplit, ChunkedRoundTrip, ChunkedStops, over heaps.
-/
import Derived.Test.YtjhcockaojlfiaaDoorChunkJ
namespace Go.Proofs.YtjhcockaojlfiaaDoor
set_option linter.unusedSimpArgs false
set_option linter.unusedVariables false
set_option maxRecDepth 20000
open Go
open Go.IntKind (wrap)
theorem flat_len (xs : List (List UInt8)) : xs.flatten.length = (xs.map List.length).sum := by simp
theorem flat_take (xs : List (List UInt8)) (k : Nat) (hk : k < xs.length) : (xs.take (k + 1)).flatten = (xs.take k).flatten ++ xs[k] := by
  rw [take_one xs k hk, List.flatten_append, List.flatten_cons, List.flatten_nil, List.append_nil]
theorem take_le (xs : List (List UInt8)) (k : Nat) : (xs.take k).flatten.length ≤ xs.flatten.length := by
  have : xs.flatten = (xs.take k).flatten ++ (xs.drop k).flatten := by rw [← List.flatten_append, List.take_append_drop]
  rw [this, List.length_append]; omega
theorem feed_new (s : List UInt8) : feed Dec.new s = feedB s Dec.new [] := by unfold feed; rw [if_neg (by decide)]
/-- What the cut body has told so far. -/
structure CutI (s : List UInt8) (d : Dec) (data left : List UInt8) (over : Bool) (found : Nat) : Prop where
  hd : d = (feedB s Dec.new []).d
  hdata : data = (feedB s Dec.new []).data
  hfound : found = (feedB s Dec.new []).err
  hover : over = true ↔ (feedB s Dec.new []).over = true ∨ (feedB s Dec.new []).err ≠ 0
  hleft : (feedB s Dec.new []).over = true → left = (feedB s Dec.new []).left
  hnil : over = false → left = []
  hlen : left.length ≤ s.length
theorem new_st (s : List UInt8) : FeedSt (feedB s Dec.new []) := feedB_st s _ _ new_ok (by decide)
theorem CutI.over_step {s t : List UInt8} {d : Dec} {data left : List UInt8} {found : Nat} (I : CutI s d data left true found) : feed d t = ⟨[], [], false, 10, d⟩ ∧ CutI (s ++ t) d data (left ++ t) true found := by
  have st := new_st s
  obtain ⟨h1, h2, h3, h4, h5, h6, h7⟩ := I
  have h4 := h4.1 rfl
  have app := feedB_app s t Dec.new []
  refine ⟨?_, ?_⟩
  · unfold feed
    rw [if_pos]
    rw [h1]
    rcases h4 with h | h
    · exact .inl (st.over.1 h)
    · exact .inr (st.err.1 h)
  · by_cases ho : (feedB s Dec.new []).over = true
    · rw [if_pos ho] at app
      exact ⟨by rw [app]; exact h1, by rw [app]; exact h2, by rw [app]; exact h3, by rw [app]; simp [ho], fun _ => by rw [app, h5 ho], by simp, by simp; omega⟩
    · have he : (feedB s Dec.new []).err ≠ 0 := by rcases h4 with h | h; exact absurd h ho; exact h
      rw [if_neg ho, if_pos he] at app
      exact ⟨by rw [app]; exact h1, by rw [app]; exact h2, by rw [app]; exact h3, by rw [app]; simp [he], fun h => by rw [app] at h; exact absurd h ho, by simp, by simp; omega⟩
theorem CutI.step {s t : List UInt8} {d : Dec} {data left : List UInt8} {found : Nat} (I : CutI s d data left false found) :
    CutI (s ++ t) (feed d t).d (data ++ (feed d t).data) (left ++ (feed d t).left) ((feed d t).over || decide ((feed d t).err ≠ 0)) (feed d t).err ∧ FeedSt (feed d t) := by
  have st := new_st s
  obtain ⟨h1, h2, h3, h4, h5, h6, h7⟩ := I
  have ho : ¬ (feedB s Dec.new []).over = true := fun h => by simpa using h4.2 (.inl h)
  have he : ¬ (feedB s Dec.new []).err ≠ 0 := fun h => by simpa using h4.2 (.inr h)
  have app := feedB_app s t Dec.new []
  rw [if_neg ho, if_neg he, ← h1, ← h2, feedB_acc t d data] at app
  have n5 : d.st ≠ 5 := fun h => ho (st.over.2 (h1 ▸ h))
  have n6 : d.st ≠ 6 := fun h => he (st.err.2 (h1 ▸ h))
  have ef : feed d t = feedB t d [] := by unfold feed; rw [if_neg (by omega)]
  have ok : d.ok := by
    rcases (feedB_fine s Dec.new [] new_ok) with h | h
    · rw [← h1] at h; exact absurd h n6
    · rw [← h1] at h; exact h
  have st2 := feedB_st t d [] ok n5
  have hl := (feedB_len t d []).2
  rw [ef]
  have hnil := h6 rfl
  subst hnil
  refine ⟨⟨by rw [app], by rw [app], by rw [app], by rw [app]; simp, fun _ => by rw [app]; simp, fun h => ?_, by simp; omega⟩, st2⟩
  simp only [Bool.or_eq_false_iff] at h
  rw [st2.left h.1]; rfl
theorem ChunkedSplit_c [Gh] {h : Heap} (s : Sl (List UInt8)) (o : StrsOk h s) (t : TZ h) {Q : Value → Heap → Prop} (hk : ∀ h', Fr (fun _ => False) h h' → Q (.bool true) h') :
    CallT Tryd.prog fn_law27_ChunkedSplit #[s.v] h Q := by
  apply law27_ChunkedSplit_s
  unfold law27_ChunkedSplit_v
  refine lives_c t fun h1 f1 => ⟨_, rfl, ?_⟩
  rw [if_neg (by decide)]
  refine New_c fun a h2 f2 e2 oa => ⟨_, rfl, ?_⟩
  refine New_c fun g h3 f3 e3 og => ⟨_, rfl, ?_⟩
  have f03 := (f1.trans f2).trans f3
  have la := oa.lt
  have oa := oa.fr f3 id
  refine long_c (o.fr0 f03) fun b hb => ⟨b, rfl, ?_⟩
  refine ifB (fun _ => hk h3 f03) fun e => ?_
  have sm := hb e
  have lg := og.lt
  have z1 := f1.size
  have z2 := f2.size
  rw [bnil]
  have hsum := sm.sum
  rw [← flat_len] at hsum
  have hcap := sm.len
  refine LoopV.mk (fun st h' => ∃ (k : Nat) (d : Dec) (data left : List UInt8) (over : Bool) (found : Nat), st = (bs (s.xs.take k).flatten, bs data, bs left, over, (found : Int), (k : Int)) ∧ k ≤ s.xs.length ∧ Fr (fun _ => False) h h' ∧ OwnD h' a d ∧ OwnD h' g Dec.new ∧ d.fine ∧ CutI (s.xs.take k).flatten d data left over found)
    (fun st _ => s.xs.length - st.2.2.2.2.2.toNat) ⟨0, Dec.new, [], [], false, 0, by simp, by omega, f03, oa, og, .inr new_ok, ⟨rfl, rfl, rfl, by simp [feedB], fun h => (by cases h), fun _ => rfl, by simp⟩⟩ ?_
  rintro - h4 ⟨k, d, data, left, over, found, rfl, hkl, f4, oa4, og4, fine, I⟩
  have hlk := take_le s.xs k
  have st := new_st (s.xs.take k).flatten
  have hdl := (feedB_len (s.xs.take k).flatten Dec.new []).1
  simp only [List.length_nil, Nat.zero_add] at hdl
  rw [← I.hdata] at hdl
  have hll := I.hlen
  unfold law27_ChunkedSplit_l1
  simp only
  refine ifD (fun hb => ?_) fun hb => ?_
  · have hk2 : k < s.xs.length := by omega
    have hE := sm.each k hk2
    refine idx_sl (o.fr0 f4) k rfl hk2 fun ad c2 _ => ?_
    rw [Int.toNat_natCast]
    refine ldS_mk (c2.at0 rfl) ⟨?_, ?_⟩
    · rw [bs_size, bs_size, imax]; omega
    refine idx_sl (o.fr0 f4) k rfl hk2 fun ad c2 _ => ?_
    refine ldS_mk (c2.at0 rfl) ?_
    rw [bs_append, ← flat_take _ _ hk2]
    refine Feed_c oa4 fine s.xs[k] (by omega) fun h5 f5 oa5 => ⟨_, _, _, _, rfl, ?_⟩
    have f05 : Fr (fun _ => False) h h5 := f4.tr f5 fun y hy hi => by omega
    have og5 := og4.fr f5 (by omega)
    have fine' := feed_fine fine s.xs[k]
    have hwk : wrap .i64 ((k : Int) + 1) = ((k + 1 : Nat) : Int) := by rw [wr (by omega) (by omega)]; omega
    cases over with
    | true =>
      rw [if_pos rfl]
      obtain ⟨ef, I2⟩ := I.over_step (t := s.xs[k])
      rw [ef] at oa5 fine' ⊢
      simp only at oa5 fine' ⊢
      rw [← flat_take _ _ hk2] at I2
      rw [bnil]
      refine ifSn (fun h => absurd rfl h) fun _ => ?_
      refine ifSn (fun h => absurd rfl h) fun _ => ?_
      rw [if_neg (by decide)]
      unfold law27_ChunkedSplit_b4
      rw [if_neg (by decide)]
      refine idx_sl (o.fr0 f05) k rfl hk2 fun ad c2 _ => ?_
      rw [Int.toNat_natCast]
      refine ldS_mk (c2.at0 rfl) ⟨?_, ?_⟩
      · rw [bs_size, bs_size, imax]; omega
      rw [bs_append, hwk]
      exact ⟨⟨k + 1, d, data, _, true, found, rfl, by omega, f05, oa5, og5, fine', I2⟩, by simp only [Int.toNat_natCast]; omega⟩
    | false =>
      rw [if_neg (by decide)]
      obtain ⟨I2, st2⟩ := I.step (t := s.xs[k])
      rw [← flat_take _ _ hk2] at I2
      have hl2 := I2.hlen
      have hd2 := (feedB_len (s.xs.take (k + 1)).flatten Dec.new []).1
      simp only [List.length_nil, Nat.zero_add] at hd2
      rw [← I2.hdata] at hd2
      have hlk2 := take_le s.xs (k + 1)
      generalize feed d s.xs[k] = r at *
      refine ⟨?_, ?_, ?_⟩
      · rw [bs_size, bs_size, imax]; rw [List.length_append] at hd2; omega
      · rw [bs_size, bs_size, imax]; rw [List.length_append] at hl2; omega
      rw [bs_append, bs_append]
      have b3 : ∀ (ov : Bool) (Kn : ByteArray × ByteArray × ByteArray × Bool × Int × Int → Heap → Prop), Kn (bs (s.xs.take (k + 1)).flatten, bs (data ++ r.data), bs (left ++ r.left), ov, (r.err : Int), ((k + 1 : Nat) : Int)) h5 →
          law27_ChunkedSplit_b3 s.p s.xs.length s.cap (some a) (some g) (bs (s.xs.take (k + 1)).flatten) (bs (data ++ r.data)) (bs (left ++ r.left)) ov r.err k r.over r.err Q Kn h5 := by
        intro ov Kn hKn
        unfold law27_ChunkedSplit_b3
        refine Done_c oa5 ⟨_, rfl, ?_⟩
        have ed : r.over = (r.d.st == 5) := by rw [Bool.eq_iff_iff, st2.over, beq_iff_eq]
        rw [hwk]
        refine ifN (fun h => by rw [ed] at h; simp at h) fun _ => ?_
        refine ifB (fun e => ?_) fun e => hKn
        have e0 : r.err = 0 := by
          have := st2.over.1 e
          have h := st2.err
          omega
        rw [if_neg (by rw [e0]; decide)]
        exact hKn
      refine ifB (fun e => ?_) fun e => ?_
      · have e3 : (r.over || decide (r.err ≠ 0)) = true := by rw [e]; rfl
        rw [e3] at I2
        rw [e] at b3 ⊢
        exact b3 _ _ ⟨⟨k + 1, r.d, _, _, true, r.err, rfl, by omega, f05, oa5, og5, fine', I2⟩, by simp only [Int.toNat_natCast]; omega⟩
      · have e3 : (r.over || decide (r.err ≠ 0)) = ((r.err : Int) != 0) := by rw [e, Bool.eq_iff_iff]; simp
        rw [e3] at I2
        rw [e] at b3 ⊢
        exact b3 _ _ ⟨⟨k + 1, r.d, _, _, _, r.err, rfl, by omega, f05, oa5, og5, fine', I2⟩, by simp only [Int.toNat_natCast]; omega⟩
  · have ek : k = s.xs.length := by omega
    subst ek
    rw [List.take_length] at I st ⊢
    unfold law27_ChunkedSplit_b2
    refine Feed_c og4 (.inr new_ok) s.xs.flatten (by omega) fun h5 f5 og5 => ⟨_, _, _, _, rfl, ?_⟩
    have f05 : Fr (fun _ => False) h h5 := f4.tr f5 fun y hy hi => by omega
    have oa5 := oa4.fr f5 (by omega)
    rw [feed_new] at og5 ⊢
    obtain ⟨i1, i2, i3, i4, i5, i6, i7⟩ := I
    rw [← i1] at og5
    have ed : (feedB s.xs.flatten Dec.new []).over = (d.st == 5) := by rw [Bool.eq_iff_iff, st.over, beq_iff_eq, i1]
    refine ifS (fun _ => ?_) fun h => absurd i2.symm h
    rw [i3]
    rw [if_pos (by simp)]
    refine Done_c oa5 ⟨_, rfl, ?_⟩
    rw [ed]
    rw [if_pos (by simp)]
    refine Done_c og5 ⟨_, rfl, ?_⟩
    rw [if_pos (by simp)]
    refine ifN (fun _ => hk h5 f05) fun e => ?_
    have e1 := i5 (by rw [ed]; exact e)
    rw [e1, beq_self_eq_true]
    exact hk h5 f05
theorem ChunkedRoundTrip_c [Gh] {h : Heap} (s : Sl (List UInt8)) (tail : List UInt8) (o : StrsOk h s) (_ : sOk h tail) (t : TZ h) {Q : Value → Heap → Prop} (hk : ∀ h', Fr (fun _ => False) h h' → Q (.bool true) h') :
    CallT Tryd.prog fn_law27_ChunkedRoundTrip #[s.v, .string (bs tail)] h Q := by
  apply law27_ChunkedRoundTrip_s
  unfold law27_ChunkedRoundTrip_v
  refine lives_c t fun h1 f1 => ⟨_, rfl, ?_⟩
  rw [if_neg (by decide)]
  refine long_c (o.fr0 f1) fun b hb => ⟨b, rfl, ?_⟩
  refine ifB (fun _ => hk h1 f1) fun e => ?_
  have sm := hb e
  rw [bs_size]
  refine ifD (fun _ => hk h1 f1) fun ht => ?_
  rw [bnil]
  have hsum := sm.sum
  rw [← flat_len] at hsum
  have hcap := sm.len
  refine LoopV.mk (fun st h' => h' = h1 ∧ ∃ k : Nat, st = (bs (s.xs.take k).flatten, (k : Int)) ∧ k ≤ s.xs.length) (fun st _ => s.xs.length - st.2.toNat) ⟨rfl, 0, rfl, by omega⟩ ?_
  rintro - h2 ⟨rfl, k, rfl, hkl⟩
  have hlk := take_le s.xs k
  unfold law27_ChunkedRoundTrip_l1
  simp only
  have o := o.fr0 f1
  have t := t.fr f1 id
  refine ifD (fun hb => ?_) fun hb => ?_
  · have hk2 : k < s.xs.length := by omega
    have hE := sm.each k hk2
    refine idx_sl o k rfl hk2 fun ad c2 _ => ?_
    rw [Int.toNat_natCast]
    refine ldS_mk (c2.at0 rfl) ⟨?_, ?_⟩
    · rw [bs_size, bs_size, imax]; omega
    rw [bs_append, ← flat_take _ _ hk2, wr (by omega) (by omega)]
    exact ⟨⟨by trivial, k + 1, rfl, by omega⟩, by omega⟩
  have ek : k = s.xs.length := by omega
  subst ek
  rw [List.take_length]
  unfold law27_ChunkedRoundTrip_b2
  have hps : ∀ p ∈ s.xs, p.length ≤ 2000 := fun p hp => by
    obtain ⟨i, hi, rfl⟩ := List.getElem_of_mem hp
    exact sm.each i hi
  have hel : (encL s.xs).length ≤ 60 * 5000 + 5 := by
    have : ∀ xs : List (List UInt8), (∀ p ∈ xs, p.length ≤ 2000) → (xs.flatMap chunkL).length ≤ xs.length * 5000 := by
      intro xs
      induction xs with
      | nil => intro _; simp
      | cons p xs ih =>
        intro h
        have ih := ih fun q hq => h q (List.mem_cons_of_mem _ hq)
        have hp := h p (List.mem_cons_self ..)
        have hx := hexL_len p.length
        have hc : (chunkL p).length ≤ 5000 := by
          unfold chunkL; split
          · simp
          · simp only [List.length_append, List.length_cons, List.length_nil]; omega
        rw [List.flatMap_cons, List.length_append, List.length_cons]; omega
    have := this s.xs hps
    unfold encL
    rw [List.length_append]; simp only [List.length_cons, List.length_nil]; omega
  have h5 : 5 ≤ (encL s.xs).length := by unfold encL; rw [List.length_append]; simp
  refine Encode_c o sm t fun h3 f3 => ⟨_, rfl, ?_⟩
  refine New_c fun a h4 f4 e4 oa => ⟨_, rfl, ?_, ?_⟩
  · rw [bs_size, bs_size, imax]; omega
  rw [bs_append]
  refine Feed_c oa (.inr new_ok) (encL s.xs ++ tail) (by rw [List.length_append]; omega) fun h6 f6 oa6 => ⟨_, _, _, _, rfl, ?_⟩
  have z2 := f1.size
  have z3 := f3.size
  have f06 : Fr (fun _ => False) h h6 := ((f1.trans f3).trans f4).tr f6 fun y hy hi => by omega
  have ef : feed Dec.new (encL s.xs ++ tail) = ⟨s.xs.flatten, tail, true, 0, ⟨5, 0, 0, false⟩⟩ := by
    rw [feed_new, encL, List.append_assoc, feed_chunks _ hps, feed_end]; simp
  rw [ef]
  refine ifSn (fun h => absurd rfl h) fun _ => ?_
  refine ifSn (fun h => absurd rfl h) fun _ => ?_
  rw [if_neg (by simp), if_neg (by simp)]
  unfold law27_ChunkedRoundTrip_b3
  rw [bs_size, if_neg (by rw [decide_eq_true_eq]; omega)]
  refine New_c fun g h7 f7 e7 og => ⟨_, rfl, ?_⟩
  rw [wr (by omega) (by omega)]
  refine slTo ((encL s.xs).length - 1) (by omega) (by omega) ?_
  refine Feed_c og (.inr new_ok) _ (by rw [List.length_take]; omega) fun h8 f8 og8 => ⟨_, _, _, _, rfl, ?_⟩
  have z6 := f06.size
  have f08 : Fr (fun _ => False) h h8 := (f06.trans f7).tr f8 fun y hy hi => by omega
  have et : (encL s.xs).take ((encL s.xs).length - 1) = s.xs.flatMap chunkL ++ [48, 13, 10, 13] := by
    have : encL s.xs = (s.xs.flatMap chunkL ++ [48, 13, 10, 13]) ++ [10] := by simp [encL]
    rw [this, List.length_append, List.length_singleton, Nat.add_sub_cancel, List.take_left]
  have ef2 : feed Dec.new ((encL s.xs).take ((encL s.xs).length - 1)) = ⟨s.xs.flatten, [], false, 0, ⟨4, 0, 0, true⟩⟩ := by
    rw [feed_new, et, feed_chunks _ hps, feed_short]; simp
  rw [ef2] at og8 ⊢
  refine ifS (fun _ => ?_) fun h => absurd rfl h
  rw [bnil]
  refine ifS (fun _ => ?_) fun h => absurd rfl h
  rw [if_pos (by rfl), if_pos (by rfl)]
  exact Done_c og8 ⟨_, rfl, hk h8 f08⟩
theorem ChunkedStops_c [Gh] {h : Heap} (s more : List UInt8) (n : Int) (os : sOk h s) (om : sOk h more) (_ : kOk .i64 h n) (t : TZ h) {Q : Value → Heap → Prop} (hk : ∀ h', Fr (fun _ => False) h h' → Q (.bool true) h') :
    CallT Tryd.prog fn_law27_ChunkedStops #[.string (bs s), .string (bs more), .int .i64 n] h Q := by
  apply law27_ChunkedStops_s
  unfold law27_ChunkedStops_v
  refine lives_c t fun h1 f1 => ⟨_, rfl, ?_⟩
  rw [if_neg (by decide), bs_size, bs_size]
  have b4t : law27_ChunkedStops_b4 (bs s) (bs more) n true Q h1 := by unfold law27_ChunkedStops_b4; rw [if_pos rfl]; exact hk h1 f1
  refine ifD (fun _ => b4t) fun hs => ?_
  refine ifD (fun _ => b4t) fun hm => ?_
  refine ifD (fun _ => b4t) fun hn0 => ?_
  by_cases hn : n > 200
  · rw [decide_eq_true hn]; exact b4t
  rw [decide_eq_false hn]
  obtain ⟨n, rfl⟩ : ∃ m : Nat, n = m := ⟨n.toNat, by omega⟩
  unfold law27_ChunkedStops_b4
  rw [if_neg (by decide)]
  refine New_c fun a h2 f2 e2 oa => ⟨_, rfl, ?_⟩
  refine Feed_c oa (.inr new_ok) s (by omega) fun h3 f3 oa3 => ⟨_, _, _, _, rfl, ?_⟩
  have z1 := f1.size
  have f03 : Fr (fun _ => False) h h3 := (f1.trans f2).tr f3 fun y hy hi => by omega
  have st := new_st s
  rw [← feed_new] at st
  have fine := feed_fine (.inr new_ok : Dec.new.fine) s
  generalize feed Dec.new s = r at *
  have b6 : ∀ hx, Fr (fun _ => False) h hx → law27_ChunkedStops_b6 (bs s) n (bs (feed Dec.new ([49, 59] ++ List.replicate n 65 ++ [10, 122])).data) (feed Dec.new ([49, 59] ++ List.replicate n 65 ++ [10, 122])).err Q hx := fun hx fx => by
    obtain ⟨l1, l2⟩ := feed_line n
    unfold law27_ChunkedStops_b6
    refine ifD (fun h126 => ?_) fun h126 => ?_
    · obtain ⟨e1, e2⟩ := l1 (by omega)
      rw [e1, e2]
      refine ifS (m := [122]) (fun _ => hk hx fx) fun h => absurd rfl h
    · obtain ⟨e1, e2⟩ := l2 (by omega)
      rw [e1, e2]
      refine FeedNil_c _ fun hy fy => ⟨_, _, _, _, rfl, ?_⟩
      rw [bnil]
      refine ifS (fun _ => ?_) fun h => absurd rfl h
      rw [if_pos (by decide), if_pos (by decide)]
      exact DoneNil_c ⟨_, rfl, hk hy (fx.trans fy)⟩
  have b1 : ∀ hx, Fr (fun _ => False) h hx → law27_ChunkedStops_b1 (bs s) n Q hx := fun hx fx => by
    unfold law27_ChunkedStops_b1
    refine LoopV.mk (fun st h' => ∃ (k : Nat) (p : Option Addr) (c : Nat), st = (p, (List.replicate k (65 : UInt8)).length, c, (k : Int)) ∧ k ≤ n ∧ k ≤ c ∧ OwnC h' p c 1 (bytesV (List.replicate k 65)) ∧ (∀ b, InA p b → h.size ≤ b) ∧ Fr (fun _ => False) h h')
      (fun st _ => n - st.2.2.2.toNat) ⟨0, none, 0, rfl, by omega, by omega, ⟨rfl, rfl⟩, fun b hb => (notInA hb).elim, fx⟩ ?_
    rintro - hy ⟨k, p, c, rfl, hkl, hc, oc, hp, fy⟩
    have zy := fy.size
    unfold law27_ChunkedStops_l2
    simp only
    refine ifD (fun hb => ?_) fun hb => ?_
    · refine al_mk (vs := [.int .u8 (65 : UInt8).toNat]) fun b h4 f4 e4 o4 => ?_
      have z4 := f4.size
      refine app1 65 (oc.fr f4 (fun _ _ => id)) o4 (by simp; omega) (by simp; omega) fun p' c' h5 oc5 hc5 f5 hn5 => ⟨_, _, _, rfl, ?_⟩
      have er : List.replicate k (65 : UInt8) ++ [65] = List.replicate (k + 1) 65 := by rw [List.replicate_succ']
      rw [er] at oc5 hc5 ⊢
      rw [wr (by omega) (by omega)]
      refine ⟨⟨k + 1, p', c', rfl, by omega, by simpa using hc5, oc5, fun b hb => ?_, (fy.trans f4).tr f5 fun y hy hi => by have := hp y hi; omega⟩, by omega⟩
      rcases hn5 b hb with h | h
      · exact hp b h
      · omega
    · have ek : k = n := by omega
      subst ek
      unfold law27_ChunkedStops_b3
      have e1 : (⟨#[49, 59]⟩ : ByteArray) = bs [49, 59] := rfl
      have e2 : (⟨#[10, 122]⟩ : ByteArray) = bs [10, 122] := rfl
      rw [e1, e2]
      have lim1 : (((bs [49, 59]).size + (bs (List.replicate k 65)).size : Nat) : Int) ≤ IntKind.max .i64 := by rw [bs_size, bs_size, imax, List.length_replicate]; simp; omega
      have lim2 : (((bs [49, 59] ++ bs (List.replicate k 65)).size + (bs [10, 122]).size : Nat) : Int) ≤ IntKind.max .i64 := by rw [bs_append, bs_size, bs_size, imax, List.length_append, List.length_replicate]; simp; omega
      have len : ([49, 59] ++ List.replicate k 65 ++ [10, 122] : List UInt8).length ≤ 2 ^ 40 := by simp; omega
      have zy := fy.size
      refine ⟨New_c fun g h4 f4 e4 og => ⟨_, rfl, conv8 (oc.fr f4 (fun _ _ => id)) ⟨_, rfl, lim1, lim2, ?_⟩⟩, conv8 oc ⟨_, rfl, lim1, lim2, New_c fun g h4 f4 e4 og => ⟨_, rfl, ?_⟩⟩⟩
      · rw [bs_append, bs_append]
        refine Feed_c og (.inr new_ok) _ len fun h5 f5 og5 => ⟨_, _, _, _, rfl, b6 h5 ((fy.trans f4).tr f5 fun y hy hi => by omega)⟩
      · rw [bs_append, bs_append]
        refine Feed_c og (.inr new_ok) _ len fun h5 f5 og5 => ⟨_, _, _, _, rfl, b6 h5 ((fy.trans f4).tr f5 fun y hy hi => by omega)⟩
  have b5 : ∀ b : Bool, (b = true → r.over = true ∨ r.err ≠ 0) → law27_ChunkedStops_b5 (bs s) (bs more) n (some a) r.over b Q h3 := fun b hb => by
    unfold law27_ChunkedStops_b5
    refine ifB (fun e => ?_) fun e => b1 h3 f03
    have ef : feed r.d more = ⟨[], [], false, 10, r.d⟩ := by
      unfold feed
      rw [if_pos]
      rcases hb e with h | h
      · exact .inl (st.over.1 h)
      · exact .inr (st.err.1 h)
    refine Feed_c oa3 fine more (by omega) fun h4 f4 oa4 => ⟨_, _, _, _, rfl, ?_⟩
    have f04 : Fr (fun _ => False) h h4 := f03.tr f4 fun y hy hi => by omega
    rw [ef] at oa4 ⊢
    rw [bnil]
    refine ifSn (fun h => absurd rfl h) fun _ => ?_
    refine ifSn (fun h => absurd rfl h) fun _ => ?_
    rw [if_neg (by simp), if_neg (by simp)]
    refine Done_c oa4 ⟨_, rfl, ?_⟩
    have ed : r.over = (r.d.st == 5) := by rw [Bool.eq_iff_iff, st.over, beq_iff_eq]
    refine ifN (fun h => by rw [ed] at h; simp at h) fun _ => b1 h4 f04
  refine ifB (fun e => b5 true fun _ => .inl e) fun e => b5 _ fun h => .inr ?_
  simpa using h
end Go.Proofs.YtjhcockaojlfiaaDoor
