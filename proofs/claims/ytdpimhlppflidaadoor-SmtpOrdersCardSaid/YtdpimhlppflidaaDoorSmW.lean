/-
  The law Orders.
-/
import Derived.Test.YtdpimhlppflidaaDoorSmV
namespace Go.Proofs.YtdpimhlppflidaaDoor
set_option linter.unusedSimpArgs false
set_option linter.unusedVariables false
set_option maxRecDepth 20000
open Go
open Go.IntKind (wrap)
theorem Many.nil {h0 h : Heap} {ss : List (SesA × PS)} {rs : List RowR} (M : Many h0 h ss rs) (t : Nat) (ht : 0 < t ∧ t < 100) : Many h0 h ss (⟨t, none, 0, []⟩ :: rs) := by
  obtain ⟨⟨o, S, N, Z, R⟩, F⟩ := M
  refine ⟨⟨o, S, N, Z, fun r hr => ?_⟩, F⟩
  rcases List.mem_cons.1 hr with rfl | hr
  · exact ⟨ht, Row.nil, fun x hx => (notInA hx).elim⟩
  · exact R r hr
theorem Dirs.append {a b : List Ev} (h1 : Dirs a) (h2 : Dirs b) : Dirs (a ++ b) := fun e he => by
  rcases List.mem_append.1 he with he | he
  · exact h1 e he
  · exact h2 e he
theorem ifBE {a b : Bool} {X Y : Prop} (h : a = b) (hx : X) : if (a == b) = true then X else Y := by rw [if_pos (by rw [h]; exact beq_self_eq_true b)]; exact hx
theorem SmtpOrders_c [Gh] (l : Sl Part) {h : Heap} (ol : PartsOk h l) {Q : Value → Heap → Prop} (hk : ∀ h', Fr (fun _ => False) h h' → Q (.bool true) h') : CallT Tryd.prog fn_law30_SmtpOrders #[.slice l.p l.xs.length l.cap] h Q := by
  apply law30_SmtpOrders_s
  unfold law30_SmtpOrders_v
  refine lives_c fun h1 f1 => ⟨_, rfl, ?_⟩
  rw [if_neg (by decide)]
  have ol1 : PartsOk h1 l := SlOk.fr0 (fun h h' x f o => S_intrusionlaw30_Part.ok_fr h h' x f o) f1 ol
  refine long_c l 4000 (by omega) ol1 fun b hb => ⟨_, rfl, ?_⟩
  refine ifB (fun _ => hk h1 f1) fun e => ?_
  obtain ⟨hl60, hpb⟩ := hb e
  have D := ol.rd
  have M0 : Many h h1 [] [] := Many.start.fr0 f1
  refine M0.new fun p h2 M1 => ⟨_, rfl, ?_⟩
  refine M1.new fun q h3 M2 => ⟨_, rfl, ?_⟩
  refine M2.new fun o h4 M3 => ⟨_, rfl, ?_⟩
  have M3 : Many h h4 [(p, st0), (q, st0), (o, st0)] [] := M3
  refine LoopV.go (fun n s h' => ∃ i x evs cl sv, s.2.2.2.2.2 = ((i : Nat) : Int) ∧ i ≤ l.xs.length ∧ n = l.xs.length - i ∧ s.2.1 = evs.length ∧ s.2.2.2.1 = bs cl ∧ s.2.2.2.2.1 = bs sv ∧ Many h h' [(p, x), (q, st0), (o, st0)] [⟨1, s.1, s.2.2.1, evs⟩] ∧ Fed (x, evs) cl sv ∧ cl.length + sv.length ≤ pB (l.xs.take i) ∧ Dirs evs ∧ evs.length ≤ i * 20000) l.xs.length
    ⟨0, st0, [], [], [], rfl, by omega, rfl, rfl, rfl, rfl, M3.nil 1 (by omega), Fed.start, by simp [pB], (fun e he => by cases he), Nat.zero_le _⟩ ?_
  rintro n ⟨aq, an, ac, cS, sS, ti⟩ h5 ⟨i, x, evs, cl, sv, hti, hi, rfl, han, hcl, hsv, M5, F5, hlen, hdir, hev⟩ Kn hK
  have hti : ti = (i : Int) := hti
  have han : an = evs.length := han
  have hcl : cS = bs cl := hcl
  have hsv : sS = bs sv := hsv
  have M5 : Many h h5 [(p, x), (q, st0), (o, st0)] [⟨1, aq, ac, evs⟩] := M5
  subst hti han hcl hsv
  dsimp only
  have hwx := F5.wt
  dsimp only at hwx
  have pall : ∀ j, pB (l.xs.take j) ≤ 4000 := fun j => by
    have e2 : pB l.xs = pB (l.xs.take j) + pB (l.xs.drop j) := by
      conv => lhs; rw [← List.take_append_drop j l.xs]
      unfold pB; rw [List.map_append, List.sum_append]
    omega
  have hpi := pall i
  have hmul : i * 20000 ≤ 60 * 20000 := Nat.mul_le_mul_right _ (by omega)
  unfold law30_SmtpOrders_l1
  refine ifD (fun e => ?_) fun e => ?_
  · have hlt : i < l.xs.length := by omega
    have ptk := pB_take l.xs i hlt
    have hpi1 := pall (i + 1)
    have get : ∀ {h' : Heap} {K : Addr → Prop}, Fr (fun _ => False) h h' → (∀ ad, Cells h' (ad.add (i * 2)) [.int .i64 l.xs[i].Dir, .string (bs l.xs[i].S)] → K ad) → idxA (i : Int) l.xs.length (nn l.p fun a => K a) := fun {h' K} f hK => (Rd.fr0 f D).get i rfl hlt fun ad ci => hK ad ci
    refine get M5.fr fun ad ci => ?_
    rw [Int.toNat_natCast]
    refine ldI_mk (ci.at0 rfl) (get M5.fr fun ad ci => ldS_mk (ci.at (j := 1) rfl) ?_)
    have fin : ∀ {h' : Heap} {aq' : Option Addr} {ac' : Nat} {x' : PS} {evs' : List Ev}, Many h h' [(p, x'), (q, st0), (o, st0)] [⟨1, aq', ac', evs'⟩] → Fed (x', evs') (if l.xs[i].Dir = 1 then cl ++ l.xs[i].S else cl) (if l.xs[i].Dir = 2 then sv ++ l.xs[i].S else sv) → Dirs evs' → evs'.length ≤ (i + 1) * 20000 →
        idxA (i : Int) l.xs.length (nn l.p fun t43 => ldI h' (Addr.add t43 (i * 2)) .i64 fun t45 => if (t45 == 1) = true then (idxA (i : Int) l.xs.length (nn l.p fun t50 => ldS h' (Addr.add (Addr.add t50 (i * 2)) 1) fun t52 => (((bs cl).size + t52.size : Nat) : Int) ≤ IntKind.max .i64 ∧ law30_SmtpOrders_b2 l.p l.xs.length l.cap (some p.a) (some q.a) (some o.a) aq' evs'.length ac' (bs cl ++ t52) (bs sv) (i : Int) Q Kn h')) else (law30_SmtpOrders_b2 l.p l.xs.length l.cap (some p.a) (some q.a) (some o.a) aq' evs'.length ac' (bs cl) (bs sv) (i : Int) Q Kn h')) := fun {h' aq' ac' x' evs'} M F hd he => by
      refine get M.fr fun ad ci => ldI_mk (ci.at0 rfl) ?_
      have b2 : ∀ cl', cl' = (if l.xs[i].Dir = 1 then cl ++ l.xs[i].S else cl) → law30_SmtpOrders_b2 l.p l.xs.length l.cap (some p.a) (some q.a) (some o.a) aq' evs'.length ac' (bs cl') (bs sv) (i : Int) Q Kn h' := fun cl' hc' => by
        rw [← hc'] at F
        have hcl' : cl'.length ≤ cl.length + (if l.xs[i].Dir = 1 then l.xs[i].S.length else 0) := by rw [hc']; split <;> simp
        unfold law30_SmtpOrders_b2
        refine get M.fr fun ad ci => ?_
        rw [Int.toNat_natCast]
        refine ldI_mk (ci.at0 rfl) (ifE (fun e2 => ?_) fun e2 => ?_)
        · rw [if_pos e2] at F
          rw [if_neg (by rw [e2]; decide)] at hcl'
          refine get M.fr fun ad ci => ldS_mk (ci.at (j := 1) rfl) ?_
          rw [bs_append, bs_size, bs_size, wr (by omega) (by omega)]
          refine ⟨Int.le_trans (b := 20000) (by omega) (by decide), ?_⟩
          exact hK (l.xs.length - (i + 1)) _ _ (by omega) ⟨i + 1, x', evs', cl', sv ++ l.xs[i].S, rfl, hlt, rfl, rfl, rfl, rfl, M, F, by rw [List.length_append]; omega, hd, he⟩
        · rw [if_neg e2] at F
          rw [wr (by omega) (by omega)]
          have : (if l.xs[i].Dir = 1 then l.xs[i].S.length else 0) ≤ l.xs[i].S.length := by split <;> omega
          exact hK (l.xs.length - (i + 1)) _ _ (by omega) ⟨i + 1, x', evs', cl', sv, rfl, hlt, rfl, rfl, rfl, rfl, M, F, by omega, hd, he⟩
      refine ifE (fun e1 => ?_) fun e1 => b2 cl (by rw [if_neg e1])
      refine get M.fr fun ad ci => ldS_mk (ci.at (j := 1) rfl) ?_
      rw [bs_append, bs_size, bs_size]
      exact ⟨Int.le_trans (b := 20000) (by omega) (by decide), b2 _ (by rw [if_pos e1])⟩
    rcases Dir_case l.xs[i].Dir with ⟨d, hd⟩ | ⟨hd1, hd2⟩
    · have hfn := F5.next d l.xs[i].S (by omega)
      have hfl := feedP_len x d l.xs[i].S
      dsimp only at hfn
      rw [hd]
      refine M5.feed 0 (by simp) d l.xs[i].S (by show wt x + _ ≤ _; omega) 2 (by omega) fun q2 c2 h6 M6 => ⟨_, _, _, rfl, ?_⟩
      have M6 : Many h h6 [(p, (feedP x d l.xs[i].S).1), (q, st0), (o, st0)] [⟨2, q2, c2, (feedP x d l.xs[i].S).2⟩, ⟨1, aq, ac, evs⟩] := M6
      refine M6.app (by show (2 : Nat) ≠ 1; decide) (fun r hr => by cases hr) (by dsimp only; omega) fun q3 c3 h7 M7 => ⟨_, _, _, rfl, ?_⟩
      have M7 := M7.sub (rs' := [⟨1, q3, c3, evs ++ (feedP x d l.xs[i].S).2⟩]) (by simp)
      refine fin M7 ?_ (hdir.append (feedP_dirs x d _)) (by show (evs ++ (feedP x d l.xs[i].S).2).length ≤ _; rw [List.length_append, Nat.succ_mul]; omega)
      rw [hd]
      cases d
      · exact hfn
      · exact hfn
    · refine M5.feed_no _ hd1 hd2 _ 2 (by omega) fun M6 => ⟨_, _, _, rfl, ?_⟩
      refine M6.app (by show (2 : Nat) ≠ 1; decide) (fun r hr => by cases hr) (by dsimp only; simp; omega) fun q3 c3 h7 M7 => ⟨_, _, _, rfl, ?_⟩
      have M7 := M7.sub (rs' := [⟨1, q3, c3, evs ++ []⟩]) (by simp)
      refine fin M7 ?_ (hdir.append fun e he => by cases he) (by show (evs ++ []).length ≤ _; rw [List.append_nil]; exact Nat.le_trans hev (Nat.mul_le_mul_right _ (Nat.le_succ i)))
      rw [if_neg hd1, if_neg hd2, List.append_nil]; exact F5
  -- behind the loop
  have hpt : cl.length + sv.length ≤ 4000 := by omega
  unfold law30_SmtpOrders_b3
  have FB := (Fed.start.next true cl (by simp; omega)).next false sv (by simp; omega)
  have FC := (Fed.start.next false sv (by simp; omega)).next true cl (by simp; omega)
  dsimp only at FB FC
  simp only [List.nil_append, if_true, if_false, Bool.false_eq_true] at FB FC
  have w1 := feedP_wt st0 true cl
  have w2 := feedP_wt st0 false sv
  rw [wt0] at w1 w2
  have n1 := feedP_len st0 true cl
  have n2 := feedP_len (feedP st0 true cl).1 false sv
  have n3 := feedP_len st0 false sv
  have n4 := feedP_len (feedP st0 false sv).1 true cl
  rw [wt0] at n1 n3
  have dB : Dirs ((feedP st0 true cl).2 ++ (feedP (feedP st0 true cl).1 false sv).2) := (feedP_dirs _ _ _).append (feedP_dirs _ _ _)
  refine M5.feed 1 (by simp) true cl (by show wt st0 + _ ≤ _; rw [wt0]; omega) 2 (by omega) fun q6 c6 h6 M6 => ⟨_, _, _, rfl, ?_⟩
  have M6 : Many h h6 [(p, x), (q, (feedP st0 true cl).1), (o, st0)] [⟨2, q6, c6, (feedP st0 true cl).2⟩, ⟨1, aq, ac, evs⟩] := M6
  refine M6.feed 1 (by simp) false sv (by show wt (feedP st0 true cl).1 + _ ≤ _; omega) 3 (by omega) fun q7 c7 h7 M7 => ⟨_, _, _, rfl, ?_⟩
  have M7 : Many h h7 [(p, x), (q, (feedP (feedP st0 true cl).1 false sv).1), (o, st0)] [⟨3, q7, c7, (feedP (feedP st0 true cl).1 false sv).2⟩, ⟨2, q6, c6, (feedP st0 true cl).2⟩, ⟨1, aq, ac, evs⟩] := M7
  refine M7.app (by show (3 : Nat) ≠ 2; decide) (fun r hr => by rw [List.mem_singleton.1 hr]; show (1 : Nat) ≠ 2; decide) (by dsimp only; omega) fun q8 c8 h8 M8 => ⟨_, _, _, rfl, ?_⟩
  have M8 := M8.sub (rs' := [⟨2, q8, c8, (feedP st0 true cl).2 ++ (feedP (feedP st0 true cl).1 false sv).2⟩, ⟨1, aq, ac, evs⟩]) (by simp)
  refine M8.feed 2 (by simp) false sv (by show wt st0 + _ ≤ _; rw [wt0]; omega) 3 (by omega) fun q9 c9 h9 M9 => ⟨_, _, _, rfl, ?_⟩
  have M9 : Many h h9 [(p, x), (q, (feedP (feedP st0 true cl).1 false sv).1), (o, (feedP st0 false sv).1)] [⟨3, q9, c9, (feedP st0 false sv).2⟩, ⟨2, q8, c8, (feedP st0 true cl).2 ++ (feedP (feedP st0 true cl).1 false sv).2⟩, ⟨1, aq, ac, evs⟩] := M9
  refine M9.feed 2 (by simp) true cl (by show wt (feedP st0 false sv).1 + _ ≤ _; omega) 4 (by omega) fun q10 c10 h10 M10 => ⟨_, _, _, rfl, ?_⟩
  have M10 : Many h h10 [(p, x), (q, (feedP (feedP st0 true cl).1 false sv).1), (o, (feedP (feedP st0 false sv).1 true cl).1)] [⟨4, q10, c10, (feedP (feedP st0 false sv).1 true cl).2⟩, ⟨3, q9, c9, (feedP st0 false sv).2⟩, ⟨2, q8, c8, (feedP st0 true cl).2 ++ (feedP (feedP st0 true cl).1 false sv).2⟩, ⟨1, aq, ac, evs⟩] := M10
  refine M10.app (by show (4 : Nat) ≠ 3; decide) (fun r hr => by
    rcases List.mem_cons.1 hr with rfl | hr
    · show (2 : Nat) ≠ 3; decide
    · rw [List.mem_singleton.1 hr]; show (1 : Nat) ≠ 3; decide) (by dsimp only; omega) fun q11 c11 h11 M11 => ⟨_, _, _, rfl, ?_⟩
  have M11 := M11.sub (rs' := [⟨3, q11, c11, (feedP st0 false sv).2 ++ (feedP (feedP st0 false sv).1 true cl).2⟩, ⟨2, q8, c8, (feedP st0 true cl).2 ++ (feedP (feedP st0 true cl).1 false sv).2⟩, ⟨1, aq, ac, evs⟩]) (by simp)
  have EB : EqR (x, evs) ((feedP (feedP st0 true cl).1 false sv).1, (feedP st0 true cl).2 ++ (feedP (feedP st0 true cl).1 false sv).2) := EqR.trans F5 (EqR.symm FB)
  have EC : EqR (x, evs) ((feedP (feedP st0 false sv).1 true cl).1, (feedP st0 false sv).2 ++ (feedP (feedP st0 false sv).1 true cl).2) := EqR.trans F5 (EqR.symm FC)
  have lB : ((feedP st0 true cl).2 ++ (feedP (feedP st0 true cl).1 false sv).2).length ≤ 2 ^ 20 := by rw [List.length_append]; omega
  have lC : ((feedP st0 false sv).2 ++ (feedP (feedP st0 false sv).1 true cl).2).length ≤ 2 ^ 20 := by rw [List.length_append]; omega
  dsimp only at M11 ⊢
  generalize (feedP st0 true cl).2 ++ (feedP (feedP st0 true cl).1 false sv).2 = EBs at *
  generalize (feedP st0 false sv).2 ++ (feedP (feedP st0 false sv).1 true cl).2 = ECs at *
  generalize (feedP (feedP st0 true cl).1 false sv).1 = xB at *
  generalize (feedP (feedP st0 false sv).1 true cl).1 = xC at *
  have DA : ∀ {h' : Heap}, Many h h' [(p, x), (q, xB), (o, xC)] [⟨3, q11, c11, ECs⟩, ⟨2, q8, c8, EBs⟩, ⟨1, aq, ac, evs⟩] → Rd 4 evV h' aq evs ∧ Rd 4 evV h' q8 EBs ∧ Rd 4 evV h' q11 ECs := fun M => ⟨M.rd (r := ⟨1, aq, ac, evs⟩) (by simp), M.rd (r := ⟨2, q8, c8, EBs⟩) (by simp), M.rd (r := ⟨3, q11, c11, ECs⟩) (by simp)⟩
  have hfl : ∀ (L : List Ev) d, (ofL L d).length ≤ L.length := fun L d => List.length_filter_le ..
  refine LoopV.go (fun n s h' => ∃ j : Nat, s = ((j : Nat) : Int) ∧ 1 ≤ j ∧ j ≤ 3 ∧ n = 3 - j ∧ Many h h' [(p, x), (q, xB), (o, xC)] [⟨3, q11, c11, ECs⟩, ⟨2, q8, c8, EBs⟩, ⟨1, aq, ac, evs⟩]) 2 ⟨1, rfl, by omega, by omega, rfl, M11⟩ ?_
  rintro n s h12 ⟨j, rfl, hj1, hj3, rfl, M12⟩ Kn2 hK2
  unfold law30_SmtpOrders_l4
  obtain ⟨Da, Db, Dc⟩ := DA M12
  refine ifD (fun e3 => ?_) fun e3 => ?_
  · have hab : ofL evs (j : Int) = ofL EBs (j : Int) ∧ ofL evs (j : Int) = ofL ECs (j : Int) := by
      have : j = 1 ∨ j = 2 := by omega
      rcases this with rfl | rfl
      · exact ⟨EB.2.1, EC.2.1⟩
      · exact ⟨EB.2.2, EC.2.2⟩
    refine Of_c Da (by omega) _ fun r1 k1 h13 f13 R13 _ => ⟨_, _, _, rfl, ?_⟩
    refine Of_c (Rd.fr0 f13 Db) (by omega) _ fun r2 k2 h14 f14 R14 _ => ⟨_, _, _, rfl, ?_⟩
    rw [← hab.1] at R14 ⊢
    have l1 := hfl evs (j : Int)
    have RA := (R13.fr0 f14).rd evV_len (by omega)
    refine Same_c RA (R14.rd evV_len (by omega)) (by omega) ⟨_, rfl, ?_⟩
    rw [if_neg (by decide)]
    refine Of_c (Rd.fr0 f14 (Rd.fr0 f13 Dc)) (by omega) _ fun r3 k3 h15 f15 R15 _ => ⟨_, _, _, rfl, ?_⟩
    rw [← hab.2] at R15 ⊢
    refine Same_c (Rd.fr0 f15 RA) (R15.rd evV_len (by omega)) (by omega) ⟨_, rfl, ?_⟩
    rw [if_neg (by decide), wr (by omega) (by omega)]
    exact hK2 (3 - (j + 1)) _ _ (by omega) ⟨j + 1, rfl, by omega, by omega, rfl, M12.fr0 ((f13.trans f14).trans f15)⟩
  · unfold law30_SmtpOrders_b5
    refine Of_c Da (by omega) _ fun r1 k1 h13 f13 R13 _ => ⟨_, _, _, rfl, ?_⟩
    refine Of_c (Rd.fr0 f13 Da) (by omega) _ fun r2 k2 h14 f14 R14 _ => ⟨_, _, _, rfl, ?_⟩
    have hdl := dirs_len evs hdir
    have l1 := hfl evs 1
    have l2 := hfl evs 2
    rw [wr (by omega) (by omega)]
    refine ifE (fun _ => ?_) fun e => absurd (by omega) e
    have M14 := M12.fr0 (f13.trans f14)
    have op1 : x.op = xB.op := congrArg PS.op EB.1
    have op2 : x.op = xC.op := congrArg PS.op EC.1
    refine M14.op 0 (by simp) ⟨_, rfl, M14.op 1 (by simp) ⟨_, rfl, ?_⟩⟩
    refine ifBE (show x.op = xB.op from op1) ?_
    refine M14.op 0 (by simp) ⟨_, rfl, M14.op 2 (by simp) ⟨_, rfl, ?_⟩⟩
    refine Qeq (hk h14 M14.fr) ?_
    show Value.bool true = Value.bool (x.op == xC.op)
    rw [op2]; simp
end Go.Proofs.YtdpimhlppflidaaDoor
