/-
  The law ThresholdSuppresses.
-/
import Derived.Test.YtfcnplakgmdfiaaThrX
import Derived.Test.YtfcnplakgmdfiaaTy
namespace Go.Proofs.Ytfcnplakgmdfiaa
set_option linter.unusedSimpArgs false
set_option linter.unusedVariables false
set_option maxRecDepth 20000
open Go
open Go.IntKind (wrap)
theorem rSuppressed_c [Gh] {q : Option Addr} {cap : Nat} {L : List Su} (sid : Int) (f : Fn) (hs : f.src.ok) (hd : f.dst.ok) (fs : fineB f.src = true) (fd : fineB f.dst = true) (hl : L.length ≤ 40) {h : Heap} (S : SuOk h q L) {Q : Value → Heap → Prop} (hk : ∀ h', Fr (fun _ => False) h h' → Q (.bool (L.any (hitS sid f))) h') :
    CallT Try.prog fn_ref51_Suppressed #[.slice q L.length cap, .int .i64 sid, .agg #[.int .i64 f.proto, .bool f.src.v6, .int .u64 f.src.hi, .int .u64 f.src.lo, .bool f.dst.v6, .int .u64 f.dst.hi, .int .u64 f.dst.lo, .int .i64 f.sport, .int .i64 f.dport]] h Q := by
  apply ref51_Suppressed_s
  unfold ref51_Suppressed_v
  refine al_mk (vs := fnV f) fun t5 h1 f1 e1 o5 => ?_
  refine LoopV.go (fun n s h' => ∃ i : Nat, s = (i : Int) ∧ i ≤ L.length ∧ n = L.length - i ∧ Fr (fun _ => False) h1 h' ∧ (L.take i).any (hitS sid f) = false) L.length ⟨0, rfl, by omega, rfl, Fr.refl _ _, rfl⟩ ?_
  rintro n - h2 ⟨i, rfl, hi, rfl, f2, hno⟩ Kn hK
  unfold ref51_Suppressed_l1
  have F2 := f1.trans f2
  refine ifD (fun e => ?_) fun e => ?_
  · have hlt : i < L.length := by omega
    have htk : L.take (i + 1) = L.take i ++ [L[i]] := by rw [List.take_append_getElem]
    have next : ∀ {h' : Heap}, Fr (fun _ => False) h2 h' → hitS sid f L[i] = false → Kn (wrap .i64 ((i : Int) + 1)) h' := fun {h'} f' hn => by
      rw [wr (by omega) (by omega)]
      exact hK (L.length - (i + 1)) _ _ (by omega) ⟨i + 1, rfl, hlt, rfl, f2.trans f', by rw [htk, List.any_append, hno]; simp [hn]⟩
    have yes : ∀ {h' : Heap}, Fr (fun _ => False) h2 h' → hitS sid f L[i] = true → Q (.bool true) h' := fun {h'} f' hh => by
      have := hk h' (F2.trans f')
      rw [List.any_eq_true.2 ⟨L[i], List.getElem_mem hlt, hh⟩] at this; exact this
    obtain ⟨ad, hq, ci, hok⟩ := SuOk.fr0 F2 S i hlt
    subst hq
    generalize L[i] = x at *
    have ci : Cells h2 (ad.add (i * 6)) [.int .i64 x.sid, .int .i64 x.by_, .bool x.p.a.v6, .int .u64 x.p.a.hi, .int .u64 x.p.a.lo, .int .i64 x.p.bits] := ci
    refine idxA_mk i rfl hlt (nn_mk ?_)
    rw [Int.toNat_natCast]
    refine (ldI_mk (ci.at0 rfl) (ldI_mk (ci.at rfl) (ldB_mk (ci.at rfl) (ldI_mk (ci.at rfl) (ldI_mk (ci.at rfl) (ldI_mk (ci.at rfl) ?_))))))
    refine al_mk (vs := [.int .i64 0, .int .i64 0, .bool false, .int .u64 0, .int .u64 0, .int .i64 0]) fun t8 h3 f3 e3 o3 => ?_
    refine stN_own o3 (ws := suV x) (by rfl) (by rfl) fun h4 f4 s4 o4 => ?_
    have F4 : Fr (fun _ => False) h2 h4 := f3.tr f4 fun b hb hi => by omega
    have g4 : Own h4 t5 (fnV f) T_api_Flow := (o5.fr0 f2).fr0 F4
    have hx : (decide (x.sid ≠ 0) && decide (x.sid ≠ sid)) = false → hitS sid f x = (decide (x.by_ = 1) && (rightB x.p && insB x.p f.src) || decide (x.by_ = 2) && (rightB x.p && insB x.p f.dst) || decide (x.by_ = 3) && ((rightB x.p && insB x.p f.src) || (rightB x.p && insB x.p f.dst))) := fun hsd => by
      unfold hitS sideB
      rw [hsd]
      cases rightB x.p <;> simp
    -- the functions asked
    have src : ∀ {h5 : Heap} {K : Bool → Heap → Prop}, Fr (fun _ => False) h4 h5 → (∀ h6, Fr (fun _ => False) h4 h6 → K (rightB x.p && insB x.p f.src) h6) →
        ldB h5 (Addr.add t8 2) fun t33_0 => ldI h5 (Addr.add (Addr.add t8 2) 1) .u64 fun t33_1 => ldI h5 (Addr.add (Addr.add t8 2) 2) .u64 fun t33_2 => ldI h5 (Addr.add (Addr.add t8 2) 3) .i64 fun t33_3 => ldB h5 (Addr.add t5 1) fun t35_0 => ldI h5 (Addr.add (Addr.add t5 1) 1) .u64 fun t35_1 => ldI h5 (Addr.add (Addr.add t5 1) 2) .u64 fun t35_2 => CallT Try.prog fn_ref51_inside #[.agg #[.bool t33_0, .int .u64 t33_1, .int .u64 t33_2, .int .i64 t33_3], .agg #[.bool t35_0, .int .u64 t35_1, .int .u64 t35_2]] h5 fun v h4 => ∃ t36 : Bool, v = .bool t36 ∧ K t36 h4 := fun {h5 K} f5 hK => by
      have p5 : Cells h5 (t8.add 2) [.bool x.p.a.v6, .int .u64 x.p.a.hi, .int .u64 x.p.a.lo, .int .i64 x.p.bits] := (o4.fr0 f5).sub 2
      have s5 : Cells h5 (t5.add 1) [.bool f.src.v6, .int .u64 f.src.hi, .int .u64 f.src.lo, .bool f.dst.v6, .int .u64 f.dst.hi, .int .u64 f.dst.lo, .int .i64 f.sport, .int .i64 f.dport] := (g4.fr0 f5).sub 1
      refine (ldB_mk (p5.at0 rfl) (ldI_mk (p5.at rfl) (ldI_mk (p5.at rfl) (ldI_mk (p5.at rfl) ?_))))
      refine (ldB_mk (s5.at0 rfl) (ldI_mk (s5.at rfl) (ldI_mk (s5.at rfl) ?_)))
      exact inside_c x.p f.src hok hs fs fun h6 f6 => ⟨_, rfl, hK h6 (f5.trans f6)⟩
    have dst : ∀ {h5 : Heap} {K : Bool → Heap → Prop}, Fr (fun _ => False) h4 h5 → (∀ h6, Fr (fun _ => False) h4 h6 → K (rightB x.p && insB x.p f.dst) h6) →
        ldB h5 (Addr.add t8 2) fun t33_0 => ldI h5 (Addr.add (Addr.add t8 2) 1) .u64 fun t33_1 => ldI h5 (Addr.add (Addr.add t8 2) 2) .u64 fun t33_2 => ldI h5 (Addr.add (Addr.add t8 2) 3) .i64 fun t33_3 => ldB h5 (Addr.add t5 4) fun t35_0 => ldI h5 (Addr.add (Addr.add t5 4) 1) .u64 fun t35_1 => ldI h5 (Addr.add (Addr.add t5 4) 2) .u64 fun t35_2 => CallT Try.prog fn_ref51_inside #[.agg #[.bool t33_0, .int .u64 t33_1, .int .u64 t33_2, .int .i64 t33_3], .agg #[.bool t35_0, .int .u64 t35_1, .int .u64 t35_2]] h5 fun v h4 => ∃ t36 : Bool, v = .bool t36 ∧ K t36 h4 := fun {h5 K} f5 hK => by
      have p5 : Cells h5 (t8.add 2) [.bool x.p.a.v6, .int .u64 x.p.a.hi, .int .u64 x.p.a.lo, .int .i64 x.p.bits] := (o4.fr0 f5).sub 2
      have s5 : Cells h5 (t5.add 4) [.bool f.dst.v6, .int .u64 f.dst.hi, .int .u64 f.dst.lo, .int .i64 f.sport, .int .i64 f.dport] := (g4.fr0 f5).sub 4
      refine (ldB_mk (p5.at0 rfl) (ldI_mk (p5.at rfl) (ldI_mk (p5.at rfl) (ldI_mk (p5.at rfl) ?_))))
      refine (ldB_mk (s5.at0 rfl) (ldI_mk (s5.at rfl) (ldI_mk (s5.at rfl) ?_)))
      exact inside_c x.p f.dst hok hd fd fun h6 f6 => ⟨_, rfl, hK h6 (f5.trans f6)⟩
    generalize (rightB x.p && insB x.p f.src) = b1 at *
    generalize (rightB x.p && insB x.p f.dst) = b2 at *
    have rest : ∀ (hsd : (decide (x.sid ≠ 0) && decide (x.sid ≠ sid)) = false), ref51_Suppressed_b2 (some ad) L.length cap sid t5 (i : Int) t8 Q Kn h4 := fun hsd => by
      have hh := hx hsd
      rw [hh] at next yes
      have cell : ∀ {h5 : Heap}, Fr (fun _ => False) h4 h5 → hcell h5 (t8.add 1) = some (.int .i64 x.by_) := fun {h5} f5 => ((o4.fr0 f5).cells).at (j := 1) rfl
      have b3 : ∀ {h5 : Heap}, Fr (fun _ => False) h4 h5 → ¬ (x.by_ = 1 ∧ b1 = true) → ¬ (x.by_ = 2 ∧ b2 = true) → ref51_Suppressed_b3 (some ad) L.length cap sid t5 (i : Int) t8 Q Kn h5 := fun {h5} f5 h1 h2 => by
        have g1 : (decide (x.by_ = 1) && b1) = false := by
          cases hb : b1 with
          | false => rw [Bool.and_false]
          | true => rw [decide_eq_false (fun h => h1 ⟨h, hb⟩)]; rfl
        have g2 : (decide (x.by_ = 2) && b2) = false := by
          cases hb : b2 with
          | false => rw [Bool.and_false]
          | true => rw [decide_eq_false (fun h => h2 ⟨h, hb⟩)]; rfl
        rw [g1, g2] at next yes
        unfold ref51_Suppressed_b3
        refine ldI_mk (cell f5) (ifE (fun e3 => ?_) fun e3 => next (F4.trans f5) (by rw [decide_eq_false e3]; rfl))
        rw [decide_eq_true e3] at next yes
        refine src f5 fun h6 f6 => ifB (fun e4 => yes (F4.trans f6) (by rw [e4]; rfl)) fun e4 => ?_
        refine dst f6 fun h7 f7 => ifB (fun e5 => yes (F4.trans f7) (by rw [e4, e5]; rfl)) fun e5 => next (F4.trans f7) (by rw [e4, e5]; rfl)
      have d2 : ∀ {h5 : Heap}, Fr (fun _ => False) h4 h5 → x.by_ = 2 → ¬ (x.by_ = 1 ∧ b1 = true) → ∀ h6, Fr (fun _ => False) h4 h6 → if b2 = true then (Q (.bool true) h6) else (ref51_Suppressed_b3 (some ad) L.length cap sid t5 (i : Int) t8 Q Kn h6) := fun {h5} f5 e2 h1 h6 f6 =>
        ifB (fun e4 => yes (F4.trans f6) (by rw [decide_eq_true e2, e4]; simp)) fun e4 => b3 f6 h1 fun h => by rw [h.2] at e4; cases e4
      unfold ref51_Suppressed_b2
      refine ldI_mk (cell (Fr.refl _ _)) (ifE (fun e1 => ?_) fun e1 => ?_)
      · refine src (Fr.refl _ _) fun h6 f6 => ifB (fun e4 => yes (F4.trans f6) (by rw [decide_eq_true e1, e4]; rfl)) fun e4 => ?_
        have hn1 : ¬ (x.by_ = 1 ∧ b1 = true) := fun h => by rw [h.2] at e4; cases e4
        refine ldI_mk (cell f6) (ifE (fun e2 => ?_) fun e2 => b3 f6 hn1 fun h => e2 h.1)
        exact dst f6 (d2 f6 e2 hn1)
      · have hn1 : ¬ (x.by_ = 1 ∧ b1 = true) := fun h => e1 h.1
        refine ldI_mk (cell (Fr.refl _ _)) (ifE (fun e2 => ?_) fun e2 => b3 (Fr.refl _ _) hn1 fun h => e2 h.1)
        exact dst (Fr.refl _ _) (d2 (Fr.refl _ _) e2 hn1)
    have c4 : Cells h4 t8 [.int .i64 x.sid, .int .i64 x.by_, .bool x.p.a.v6, .int .u64 x.p.a.hi, .int .u64 x.p.a.lo, .int .i64 x.p.bits] := o4.cells
    refine ldI_mk (c4.at0 rfl) (ifNe (fun e5 => ?_) fun e5 => rest (by rw [decide_eq_false (fun h => h e5)]; rfl))
    refine ldI_mk (c4.at0 rfl) (ifNe (fun e6 => ?_) fun e6 => rest (by rw [decide_eq_false (p := x.sid ≠ sid) (fun h => h e6), Bool.and_false]))
    exact next F4 (by unfold hitS; rw [decide_eq_true e5, decide_eq_true e6]; rfl)
  · have : i = L.length := by omega
    subst this
    rw [List.take_length] at hno
    have := hk h2 F2
    rw [hno] at this; exact this
theorem fineN_c [Gh] (f : Fn) {h : Heap} {Q : Value → Heap → Prop} (hk : ∀ b h', Fr (fun _ => False) h h' → (b = true → fineB f.src = true ∧ fineB f.dst = true) → Q (.bool b) h') :
    CallT Try.prog fn_law51_fine #[.agg #[.int .i64 f.proto, .bool f.src.v6, .int .u64 f.src.hi, .int .u64 f.src.lo, .bool f.dst.v6, .int .u64 f.dst.hi, .int .u64 f.dst.lo, .int .i64 f.sport, .int .i64 f.dport]] h Q := by
  apply law51_fine_s
  unfold law51_fine_v
  obtain ⟨m, hm⟩ : ∃ m : Int, m = 4294967296 := ⟨_, rfl⟩
  rw [← hm]
  refine al_mk (vs := fnV f) fun t h1 f1 e1 o => ?_
  have no : Q (.bool false) h1 := hk false h1 f1 fun h => by cases h
  have c : Cells h1 t (fnV f) := o.cells
  have s : Cells h1 (t.add 1) [.bool f.src.v6, .int .u64 f.src.hi, .int .u64 f.src.lo, .bool f.dst.v6, .int .u64 f.dst.hi, .int .u64 f.dst.lo, .int .i64 f.sport, .int .i64 f.dport] := o.sub 1
  have d : Cells h1 (t.add 4) [.bool f.dst.v6, .int .u64 f.dst.hi, .int .u64 f.dst.lo, .int .i64 f.sport, .int .i64 f.dport] := o.sub 4
  have s4 : fineB f.src = true → ldB h1 (Addr.add t 4) fun t21 => if t21 = true then (Q (.bool true) h1) else (ldI h1 (Addr.add (Addr.add t 4) 1) .u64 fun t25 => if (t25 == 0) = true then (ldI h1 (Addr.add (Addr.add t 4) 2) .u64 fun t30 => Q (.bool (decide (t30 < m))) h1) else (Q (.bool false) h1)) := fun fs => by
    refine ldB_mk (d.at0 rfl) (ifB (fun e => hk _ h1 f1 fun _ => ⟨fs, by unfold fineB; rw [e]; rfl⟩) fun e => ?_)
    refine ldI_mk (d.at (j := 1) rfl) (ifE (fun e2 => ?_) fun _ => no)
    refine ldI_mk (d.at (j := 2) rfl) (hk _ h1 f1 fun hb => ⟨fs, ?_⟩)
    have hb := of_decide_eq_true hb
    unfold fineB
    rw [e, decide_eq_true (show f.dst.hi = 0 by omega), decide_eq_true (show f.dst.lo < 4294967296 by omega)]; rfl
  refine ldB_mk (s.at0 rfl) (ifB (fun e => s4 (by unfold fineB; rw [e]; rfl)) fun e => ?_)
  refine ldI_mk (s.at (j := 1) rfl) (ifE (fun e2 => ?_) fun _ => no)
  refine ldI_mk (s.at (j := 2) rfl) (ifD (fun e3 => s4 ?_) fun _ => no)
  unfold fineB
  rw [e, decide_eq_true (show f.src.hi = 0 by omega), decide_eq_true (show f.src.lo < 4294967296 by omega)]; rfl
def anOf (a : S_api_Addr) : An := ⟨a.V6, a.Hi.toNat, a.Lo.toNat⟩
theorem u64_rng {h : Heap} {n : Int} (hn : kOk .u64 h n) : 0 ≤ n ∧ n < 18446744073709551616 := by
  unfold kOk Lit.wf IntKind.min IntKind.max at hn
  simp [IntKind.signed, IntKind.bits] at hn
  omega
theorem an_ok {h : Heap} {a : S_api_Addr} (o : S_api_Addr.ok h a) : (anOf a).ok ∧ ((anOf a).hi : Int) = a.Hi ∧ ((anOf a).lo : Int) = a.Lo := by
  have h1 := u64_rng o.k1
  have h2 := u64_rng o.k2
  unfold anOf An.ok
  dsimp only
  omega
def suOf (x : S_api_Suppress) : Su := ⟨x.Sid, x.By, ⟨anOf x.Prefix.Addr, x.Prefix.Bits⟩⟩
theorem ThresholdSuppresses_c [Gh] (l : Sl S_api_Suppress) (sid : Int) (f : S_api_Flow) {h : Heap} (ol : SlOk 6 S_api_Suppress.vals S_api_Suppress.ok h l) (_ : kOk .i64 h sid) (of : S_api_Flow.ok h f) {Q : Value → Heap → Prop} (hk : ∀ h', Fr (fun _ => False) h h' → Q (.bool true) h') :
    CallT Try.prog fn_law51_ThresholdSuppresses #[.slice l.p l.xs.length l.cap, .int .i64 sid, .agg f.vals.toArray] h Q := by
  obtain ⟨s1, s2, s3⟩ := an_ok of.k1
  obtain ⟨d1, d2, d3⟩ := an_ok of.k2
  obtain ⟨g, hg⟩ : ∃ g : Fn, g = ⟨f.Proto, anOf f.Src, anOf f.Dst, f.Sport, f.Dport⟩ := ⟨_, rfl⟩
  have ev : f.vals = [.int .i64 g.proto, .bool g.src.v6, .int .u64 g.src.hi, .int .u64 g.src.lo, .bool g.dst.v6, .int .u64 g.dst.hi, .int .u64 g.dst.lo, .int .i64 g.sport, .int .i64 g.dport] := by
    subst hg; dsimp only; rw [s2, s3, d2, d3]; rfl
  have gs : g.src.ok := by subst hg; exact s1
  have gd : g.dst.ok := by subst hg; exact d1
  have el : l.xs.length = (l.xs.map suOf).length := (List.length_map ..).symm
  have S : SuOk h l.p (l.xs.map suOf) := fun i hi => by
    rw [List.length_map] at hi
    obtain ⟨ad, h1, h2, h3⟩ := ol.at_ i hi
    obtain ⟨a1, a2, a3⟩ := an_ok h3.k2.k0
    refine ⟨ad, h1, ?_, by rw [List.getElem_map]; exact a1⟩
    rw [List.getElem_map]
    have : suV (suOf l.xs[i]) = l.xs[i].vals := by
      unfold suOf suV
      dsimp only
      rw [a2, a3]; rfl
    rw [this]; exact h2
  rw [ev, el]
  generalize l.xs.map suOf = L at *
  clear ev hg
  apply law51_ThresholdSuppresses_s
  unfold law51_ThresholdSuppresses_v
  refine al_mk (vs := fnV g) fun t5 h1 f1 e1 o5 => ?_
  have aw : ∀ {h' : Heap}, Fr (fun _ => False) h h' → CallT Try.prog fn_law51_awake #[] h' fun v h2 => ∃ t15 : Bool, v = .bool t15 ∧ Q (.bool t15) h2 := fun f => awake_c fun h2 f2 => ⟨_, rfl, hk h2 (f.trans f2)⟩
  refine ifD (fun _ => aw f1) fun e40 => ?_
  have c : Cells h1 t5 [.int .i64 g.proto, .bool g.src.v6, .int .u64 g.src.hi, .int .u64 g.src.lo, .bool g.dst.v6, .int .u64 g.dst.hi, .int .u64 g.dst.lo, .int .i64 g.sport, .int .i64 g.dport] := o5.cells
  refine (ldI_mk (c.at0 rfl) (ldB_mk (c.at rfl) (ldI_mk (c.at rfl) (ldI_mk (c.at rfl) (ldB_mk (c.at rfl) (ldI_mk (c.at rfl) (ldI_mk (c.at rfl) (ldI_mk (c.at rfl) (ldI_mk (c.at rfl) ?_)))))))))
  refine fineN_c g fun b h3 f3 hb => ⟨_, rfl, ?_⟩
  have F3 := f1.trans f3
  refine ifN (fun _ => aw F3) fun e => ?_
  obtain ⟨fs, fd⟩ := hb e
  have c3 := c.fr0 f3
  refine (ldI_mk (c3.at0 rfl) (ldB_mk (c3.at rfl) (ldI_mk (c3.at rfl) (ldI_mk (c3.at rfl) (ldB_mk (c3.at rfl) (ldI_mk (c3.at rfl) (ldI_mk (c3.at rfl) (ldI_mk (c3.at rfl) (ldI_mk (c3.at rfl) ?_)))))))))
  refine (ldI_mk (c3.at0 rfl) (ldB_mk (c3.at rfl) (ldI_mk (c3.at rfl) (ldI_mk (c3.at rfl) (ldB_mk (c3.at rfl) (ldI_mk (c3.at rfl) (ldI_mk (c3.at rfl) (ldI_mk (c3.at rfl) (ldI_mk (c3.at rfl) ?_)))))))))
  refine Suppressed_c sid g gs gd (by omega) (SuOk.fr0 F3 S) fun h5 f5 => ⟨_, rfl, ?_⟩
  have c5 := c3.fr0 f5
  have F5 := F3.trans f5
  refine ⟨ldI_mk (c5.at0 rfl) (ldB_mk (c5.at (j := 1) rfl) (ldI_mk (c5.at (j := 2) rfl) (ldI_mk (c5.at (j := 3) rfl) (ldB_mk (c5.at (j := 4) rfl) (ldI_mk (c5.at (j := 5) rfl) (ldI_mk (c5.at (j := 6) rfl) (ldI_mk (c5.at (j := 7) rfl) (ldI_mk (c5.at (j := 8) rfl) rfl)))))))), ?_⟩
  refine rSuppressed_c sid g gs gd fs fd (by omega) (SuOk.fr0 F5 S) fun h6 f6 => ⟨_, rfl, ?_⟩
  rw [if_pos (by simp)]
  exact aw (F5.trans f6)
end Go.Proofs.Ytfcnplakgmdfiaa
