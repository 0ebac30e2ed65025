/-
  Suppression on both sides; the law ThresholdSuppresses.
-/
import Derived.Test.YtfcnplakgmdfiaaThrW
namespace Go.Proofs.Ytfcnplakgmdfiaa
set_option linter.unusedSimpArgs false
set_option linter.unusedVariables false
set_option maxRecDepth 20000
open Go
open Go.IntKind (wrap)
theorem el_rg : ElemT Try.prog T_sl_api_Range T_api_Range Try.t105 (.agg #[.bool false, .int .u64 0, .int .u64 0, .bool false, .int .u64 0, .int .u64 0]) :=
  ⟨Try.underlying96, by kernel_rfl, by kernel_rfl, by kernel_rfl, by decide +kernel⟩
theorem add_c [Gh] (r : Rg) {h : Heap} {Q : Value → Heap → Prop} (hk : ∀ q c h', Fr (fun _ => False) h h' → Row 6 rgV h' q c [r] → Q (.slice q 1 c) h') :
    CallT Try.prog fn_ref07_add #[.slice none 0 0, .agg #[.bool r.a.v6, .int .u64 r.a.hi, .int .u64 r.a.lo, .bool r.b.v6, .int .u64 r.b.hi, .int .u64 r.b.lo]] h Q := by
  apply ref07_add_s
  unfold ref07_add_v
  refine al_mk (vs := rgV r) fun t h1 f1 e1 o1 => ?_
  have c : Cells h1 t [.bool r.a.v6, .int .u64 r.a.hi, .int .u64 r.a.lo, .bool r.b.v6, .int .u64 r.b.hi, .int .u64 r.b.lo] := o1.cells
  refine LoopV.go (fun n s h' => s = (none, 0, 0, false, 0) ∧ h' = h1) 0 ⟨rfl, rfl⟩ ?_
  rintro n s h2 ⟨rfl, rfl⟩ Kn hK
  unfold ref07_add_l1
  refine ifD (fun e => absurd e (by decide)) fun _ => ?_
  unfold ref07_add_b3
  rw [if_pos (by rfl)]
  refine (ldB_mk (c.at0 rfl) (ldI_mk (c.at rfl) (ldI_mk (c.at rfl) (ldB_mk (c.at rfl) (ldI_mk (c.at rfl) (ldI_mk (c.at rfl) ?_))))))
  refine al_mk (vs := rgV r) fun t73 h3 f3 e3 o3 => ?_
  refine (Row.nil (sz := 6) (vals := rgV) (h := h3)).app el_rg Try.underlying96 (by intro k e; cases e) (by kernel_rfl) (by decide +kernel) rgV_len (fun _ => rfl) o3 1 (by simp) fun p' c' h4 R4 f4 hn => ⟨_, _, _, rfl, ?_⟩
  refine hk p' c' h4 ((f1.trans f3).tr f4 fun x hx hh => ?_) R4
  obtain ⟨a, h1, _⟩ := hh; cases h1
def ofR (p : Pn) : List Rg := if rightB p = true then [blkP p] else []
theorem Of_c [Gh] (p : Pn) (hp : p.a.ok) {t : Addr} {h : Heap} (c : Cells h t p.vals) {Q : Value → Heap → Prop} (hk : ∀ q k h', Fr (fun _ => False) h h' → Row 6 rgV h' q k (ofR p) → Q (.slice q (ofR p).length k) h') :
    CallT Try.prog fn_ref07_Of #[.slice (some t) 1 1] h Q := by
  apply ref07_Of_s
  unfold ref07_Of_v
  have c : Cells h t [.bool p.a.v6, .int .u64 p.a.hi, .int .u64 p.a.lo, .int .i64 p.bits] := c
  refine LoopV.go (fun n s h' => (s = (none, 0, 0, 0) ∧ n = 1 ∧ h' = h) ∨ (∃ q k, s = (q, (ofR p).length, k, 1) ∧ n = 0 ∧ Fr (fun _ => False) h h' ∧ Row 6 rgV h' q k (ofR p))) 1 (.inl ⟨rfl, rfl, rfl⟩) ?_
  rintro n s h1 (⟨rfl, rfl, rfl⟩ | ⟨q, k, rfl, rfl, f1, R1⟩) Kn hK
  · unfold ref07_Of_l1
    refine ifD (fun _ => ?_) fun e => absurd (by decide) e
    have c0 : Cells h1 (t.add 0) [.bool p.a.v6, .int .u64 p.a.hi, .int .u64 p.a.lo, .int .i64 p.bits] := by
      have e : t.add 0 = t := by obtain ⟨b, o, s⟩ := t; cases s <;> rfl
      rw [e]; exact c
    have z : (0 : Int).toNat * 4 = 0 := rfl
    refine idxA_mk 0 rfl (by decide) (nn_mk ?_)
    rw [z]
    refine (ldB_mk (c0.at0 rfl) (ldI_mk (c0.at rfl) (ldI_mk (c0.at rfl) (ldI_mk (c0.at rfl) ?_))))
    refine Right_c p hp fun h2 f2 => ⟨_, rfl, ?_⟩
    have c2 := c0.fr0 f2
    refine ifB (fun e => ?_) fun e => ?_
    · refine idxA_mk 0 rfl (by decide) (nn_mk ?_)
      refine (ldB_mk (c2.at0 rfl) (ldI_mk (c2.at rfl) (ldI_mk (c2.at rfl) (ldI_mk (c2.at rfl) ?_))))
      refine Block_c p hp (right_of e) fun h3 f3 => ⟨_, _, _, _, _, _, rfl, ?_⟩
      refine add_c (blkP p) fun q k h4 f4 R4 => ⟨_, _, _, rfl, ?_⟩
      have eo : ofR p = [blkP p] := if_pos e
      refine hK 0 _ _ (by omega) (.inr ⟨q, k, by rw [eo]; rfl, rfl, (f2.trans f3).trans f4, by rw [eo]; exact R4⟩)
    · have eo : ofR p = [] := if_neg (by rw [e]; decide)
      refine hK 0 _ _ (by omega) (.inr ⟨none, 0, by rw [eo]; rfl, rfl, f2, by rw [eo]; exact Row.nil⟩)
  · unfold ref07_Of_l1
    refine ifD (fun e => absurd e (by show ¬ ((1 : Int) < ((1 : Nat) : Int)); decide)) fun _ => hk q k h1 f1 R1
def hitR (a : An) (r : Rg) : Bool := someB r && ((r.a.v6 == a.v6) && !befB a r.a && !befB r.b a)
theorem rContains_c [Gh] (a : An) (hf : fineB a = true) {q : Option Addr} {k : Nat} {L : List Rg} (hl : L.length ≤ 1) {h : Heap} (R : Row 6 rgV h q k L) {Q : Value → Heap → Prop} (hk : ∀ h', Fr (fun _ => False) h h' → Q (.bool (L.any (hitR a))) h') :
    CallT Try.prog fn_ref07_Contains #[.slice q L.length k, .agg #[.bool a.v6, .int .u64 a.hi, .int .u64 a.lo]] h Q := by
  apply ref07_Contains_s
  unfold ref07_Contains_v
  refine al_mk (vs := a.vals) fun t h1 f1 e1 o1 => ?_
  have ca : Cells h1 t [.bool a.v6, .int .u64 a.hi, .int .u64 a.lo] := o1.cells
  refine LoopV.go (fun n s h' => ∃ i : Nat, s = (i : Int) ∧ i ≤ L.length ∧ n = L.length - i ∧ Fr (fun _ => False) h1 h' ∧ (L.take i).any (hitR a) = false) L.length ⟨0, rfl, by omega, rfl, Fr.refl _ _, rfl⟩ ?_
  rintro n - h2 ⟨i, rfl, hi, rfl, f2, hno⟩ Kn hK
  unfold ref07_Contains_l1
  have F2 := f1.trans f2
  refine ifD (fun e => ?_) fun e => ?_
  · have hlt : i < L.length := by omega
    have c2 := ca.fr0 f2
    have htk : L.take (i + 1) = L.take i ++ [L[i]] := by rw [List.take_append_getElem]
    have next : ∀ {h' : Heap}, Fr (fun _ => False) h2 h' → hitR a L[i] = false → Kn (wrap .i64 ((i : Int) + 1)) h' := fun {h'} f hn => by
      rw [wr (by omega) (by omega)]
      exact hK (L.length - (i + 1)) _ _ (by omega) ⟨i + 1, rfl, hlt, rfl, f2.trans f, by rw [htk, List.any_append, hno]; simp [hn]⟩
    have get : ∀ {h' : Heap} {K : Addr → Prop}, Fr (fun _ => False) h2 h' → (∀ ad, Cells h' (ad.add (i * 6)) [.bool L[i].a.v6, .int .u64 L[i].a.hi, .int .u64 L[i].a.lo, .bool L[i].b.v6, .int .u64 L[i].b.hi, .int .u64 L[i].b.lo] → K ad) → idxA (i : Int) L.length (nn q fun a => K a) := fun {h' K} f hK => (Row.fr0 (F2.trans f) R).idx rgV_len (by omega) i rfl hlt fun ad ci => hK ad ci
    refine (ldB_mk (c2.at0 rfl) (ldI_mk (c2.at rfl) (ldI_mk (c2.at rfl) ?_)))
    refine Fine_c a fun h3 f3 => ⟨_, rfl, ?_⟩
    rw [if_pos hf]
    refine get f3 fun ad ci => ?_
    rw [Int.toNat_natCast]
    refine (ldB_mk (ci.at0 rfl) (ldI_mk (ci.at rfl) (ldI_mk (ci.at rfl) (ldB_mk (ci.at rfl) (ldI_mk (ci.at rfl) (ldI_mk (ci.at rfl) ?_))))))
    refine Some_c L[i] fun h4 f4 => ⟨_, rfl, ?_⟩
    have f24 := f3.trans f4
    have c4 := c2.fr0 f24
    refine ifB (fun e1 => ?_) fun e1 => next f24 (by unfold hitR; rw [e1]; rfl)
    refine get f24 fun ad ci => ldB_mk (ci.at0 rfl) (ldB_mk (c4.at0 rfl) (ifB (fun e2 => ?_) fun e2 => next f24 (by unfold hitR; rw [e1, e2]; rfl)))
    refine (ldB_mk (c4.at0 rfl) (ldI_mk (c4.at rfl) (ldI_mk (c4.at rfl) ?_)))
    refine get f24 fun ad ci => ?_
    refine (ldB_mk (ci.at0 rfl) (ldI_mk (ci.at rfl) (ldI_mk (ci.at rfl) ?_)))
    refine Before_c a L[i].a fun h5 f5 => ⟨_, rfl, ?_⟩
    have f25 := f24.trans f5
    have c5 := c4.fr0 f5
    refine ifN (fun e3 => ?_) fun e3 => next f25 (by unfold hitR; rw [e1, e2, e3]; rfl)
    refine get f25 fun ad ci => ?_
    have cs : Cells h5 ((ad.add (i * 6)).add 3) [.bool L[i].b.v6, .int .u64 L[i].b.hi, .int .u64 L[i].b.lo] := ci.sub 3
    refine (ldB_mk (cs.at0 rfl) (ldI_mk (cs.at rfl) (ldI_mk (cs.at rfl) ?_)))
    refine (ldB_mk (c5.at0 rfl) (ldI_mk (c5.at rfl) (ldI_mk (c5.at rfl) ?_)))
    refine Before_c L[i].b a fun h6 f6 => ⟨_, rfl, ?_⟩
    have f26 := f25.trans f6
    refine ifN (fun e4 => ?_) fun e4 => next f26 (by unfold hitR; rw [e1, e2, e3, e4]; rfl)
    have hh : hitR a L[i] = true := by unfold hitR; rw [e1, e2, e3, e4]; rfl
    have := hk h6 (F2.trans f26)
    rw [List.any_eq_true.2 ⟨L[i], List.getElem_mem hlt, hh⟩] at this; exact this
  · have : i = L.length := by omega
    subst this
    rw [List.take_length] at hno
    have := hk h2 F2
    rw [hno] at this; exact this
theorem inside_c [Gh] (p : Pn) (a : An) (hp : p.a.ok) (ha : a.ok) (hf : fineB a = true) {h : Heap} {Q : Value → Heap → Prop} (hk : ∀ h', Fr (fun _ => False) h h' → Q (.bool (rightB p && insB p a)) h') :
    CallT Try.prog fn_ref51_inside #[.agg #[.bool p.a.v6, .int .u64 p.a.hi, .int .u64 p.a.lo, .int .i64 p.bits], .agg #[.bool a.v6, .int .u64 a.hi, .int .u64 a.lo]] h Q := by
  apply ref51_inside_s
  unfold ref51_inside_v
  refine al_mk (vs := p.vals) fun t h1 f1 e1 o1 => ?_
  refine al_mk (vs := a.vals) fun t' h2 f2 e2 o2 => ?_
  have c : Cells h2 t [.bool p.a.v6, .int .u64 p.a.hi, .int .u64 p.a.lo, .int .i64 p.bits] := (o1.fr0 f2).cells
  have d : Cells h2 t' [.bool a.v6, .int .u64 a.hi, .int .u64 a.lo] := o2.cells
  refine (ldB_mk (c.at0 rfl) (ldI_mk (c.at rfl) (ldI_mk (c.at rfl) (ldI_mk (c.at rfl) ?_))))
  refine (ldB_mk (d.at0 rfl) (ldI_mk (d.at rfl) (ldI_mk (d.at rfl) ?_)))
  refine al_mk (vs := p.vals) fun t6 h3 f3 e3 o3 => ?_
  have d3 := d.fr0 f3
  refine ⟨ldB_mk (d3.at0 rfl) (ldI_mk (d3.at (j := 1) rfl) (ldI_mk (d3.at (j := 2) rfl) rfl)), ?_⟩
  refine Of_c p hp o3.cells fun q k h4 f4 R4 => ⟨_, _, _, rfl, ?_⟩
  have d4 := d3.fr0 f4
  refine ⟨ldB_mk (d4.at0 rfl) (ldI_mk (d4.at (j := 1) rfl) (ldI_mk (d4.at (j := 2) rfl) rfl)), ?_⟩
  have hl : (ofR p).length ≤ 1 := by unfold ofR; split <;> simp
  refine rContains_c a hf hl R4 fun h5 f5 => ⟨_, rfl, ?_⟩
  refine Qeq (hk h5 ((((f1.trans f2).trans f3).trans f4).trans f5)) ?_
  congr 1
  unfold ofR
  by_cases hr : rightB p = true
  · rw [if_pos hr, hr, Bool.true_and, List.any_cons, List.any_nil, Bool.or_false]
    unfold hitR
    rw [some_blkP hp (right_of hr), Bool.true_and, in_blkP hp ha (right_of hr)]
  · have : rightB p = false := by
      cases h : rightB p with
      | false => rfl
      | true => exact absurd h hr
    rw [if_neg hr, this]; rfl
/-! ### Entries -/
structure Su where
  sid : Int
  by_ : Int
  p : Pn
def suV (x : Su) : List Value := [.int .i64 x.sid, .int .i64 x.by_, .bool x.p.a.v6, .int .u64 x.p.a.hi, .int .u64 x.p.a.lo, .int .i64 x.p.bits]
structure Fn where
  proto : Int
  src : An
  dst : An
  sport : Int
  dport : Int
def fnV (f : Fn) : List Value := [.int .i64 f.proto, .bool f.src.v6, .int .u64 f.src.hi, .int .u64 f.src.lo, .bool f.dst.v6, .int .u64 f.dst.hi, .int .u64 f.dst.lo, .int .i64 f.sport, .int .i64 f.dport]
def sideB (x : Su) (f : Fn) : Bool := (decide (x.by_ = 1) && insB x.p f.src) || (decide (x.by_ = 2) && insB x.p f.dst) || (decide (x.by_ = 3) && (insB x.p f.src || insB x.p f.dst))
def hitS (sid : Int) (f : Fn) (x : Su) : Bool := !(decide (x.sid ≠ 0) && decide (x.sid ≠ sid)) && (rightB x.p && sideB x f)
def SuOk (h : Heap) (q : Option Addr) (L : List Su) : Prop := ∀ i (hi : i < L.length), ∃ ad, q = some ad ∧ Cells h (ad.add (i * 6)) (suV L[i]) ∧ L[i].p.a.ok
theorem SuOk.fr0 {h h' : Heap} {q : Option Addr} {L : List Su} (f : Fr (fun _ => False) h h') (S : SuOk h q L) : SuOk h' q L := fun i hi => by
  obtain ⟨ad, h1, h2, h3⟩ := S i hi; exact ⟨ad, h1, h2.fr0 f, h3⟩
theorem Suppressed_c [Gh] {q : Option Addr} {cap : Nat} {L : List Su} (sid : Int) (f : Fn) (hs : f.src.ok) (hd : f.dst.ok) (hl : L.length ≤ 40) {h : Heap} (S : SuOk h q L) {Q : Value → Heap → Prop} (hk : ∀ h', Fr (fun _ => False) h h' → Q (.bool (L.any (hitS sid f))) h') :
    CallT Try.prog fn_threshold_Suppressed #[.slice q L.length cap, .int .i64 sid, .agg #[.int .i64 f.proto, .bool f.src.v6, .int .u64 f.src.hi, .int .u64 f.src.lo, .bool f.dst.v6, .int .u64 f.dst.hi, .int .u64 f.dst.lo, .int .i64 f.sport, .int .i64 f.dport]] h Q := by
  apply threshold_Suppressed_s
  unfold threshold_Suppressed_v
  refine al_mk (vs := fnV f) fun t5 h1 f1 e1 o5 => ?_
  refine LoopV.go (fun n s h' => ∃ i : Nat, s = (i : Int) ∧ i ≤ L.length ∧ n = L.length - i ∧ Fr (fun _ => False) h1 h' ∧ (L.take i).any (hitS sid f) = false) L.length ⟨0, rfl, by omega, rfl, Fr.refl _ _, rfl⟩ ?_
  rintro n - h2 ⟨i, rfl, hi, rfl, f2, hno⟩ Kn hK
  unfold threshold_Suppressed_l1
  have F2 := f1.trans f2
  refine ifD (fun e => ?_) fun e => ?_
  · have hlt : i < L.length := by omega
    have htk : L.take (i + 1) = L.take i ++ [L[i]] := by rw [List.take_append_getElem]
    have next : ∀ {h' : Heap}, Fr (fun _ => False) h2 h' → hitS sid f L[i] = false → Kn (wrap .i64 ((i : Int) + 1)) h' := fun {h'} f' hn => by
      rw [wr (by omega) (by omega)]
      exact hK (L.length - (i + 1)) _ _ (by omega) ⟨i + 1, rfl, hlt, rfl, f2.trans f', by rw [htk, List.any_append, hno]; simp [hn]⟩
    have yes : ∀ {h' : Heap}, Fr (fun _ => False) h2 h' → hitS sid f L[i] = true → Q (.bool true) h' := fun {h'} f' hh => by
      have := hk h' (F2.trans f')
      rw [List.any_eq_true.2 ⟨L[i], List.getElem_mem hlt, hh⟩] at this; exact this
    obtain ⟨ad, hq, ci, hok⟩ := SuOk.fr0 F2 S i hlt
    subst hq
    generalize L[i] = x at *
    have ci : Cells h2 (ad.add (i * 6)) [.int .i64 x.sid, .int .i64 x.by_, .bool x.p.a.v6, .int .u64 x.p.a.hi, .int .u64 x.p.a.lo, .int .i64 x.p.bits] := ci
    refine idxA_mk i rfl hlt (nn_mk ?_)
    rw [Int.toNat_natCast]
    refine (ldI_mk (ci.at0 rfl) (ldI_mk (ci.at rfl) (ldB_mk (ci.at rfl) (ldI_mk (ci.at rfl) (ldI_mk (ci.at rfl) (ldI_mk (ci.at rfl) ?_))))))
    refine al_mk (vs := [.int .i64 0, .int .i64 0, .bool false, .int .u64 0, .int .u64 0, .int .i64 0]) fun t8 h3 f3 e3 o3 => ?_
    refine stN_own o3 (ws := suV x) (by rfl) (by rfl) fun h4 f4 s4 o4 => ?_
    have F4 : Fr (fun _ => False) h2 h4 := f3.tr f4 fun b hb hi => by omega
    have c4 : Cells h4 t8 [.int .i64 x.sid, .int .i64 x.by_, .bool x.p.a.v6, .int .u64 x.p.a.hi, .int .u64 x.p.a.lo, .int .i64 x.p.bits] := o4.cells
    have p4 : Cells h4 (t8.add 2) [.bool x.p.a.v6, .int .u64 x.p.a.hi, .int .u64 x.p.a.lo, .int .i64 x.p.bits] := o4.sub 2
    have g4 : Own h4 t5 (fnV f) T_api_Flow := (o5.fr0 f2).fr0 F4
    have rest : ∀ (hsd : (decide (x.sid ≠ 0) && decide (x.sid ≠ sid)) = false), ldB h4 (Addr.add t8 2) fun t28_0 => ldI h4 (Addr.add (Addr.add t8 2) 1) .u64 fun t28_1 => ldI h4 (Addr.add (Addr.add t8 2) 2) .u64 fun t28_2 => ldI h4 (Addr.add (Addr.add t8 2) 3) .i64 fun t28_3 => CallT Try.prog fn_address_ValidPrefix #[.agg #[.bool t28_0, .int .u64 t28_1, .int .u64 t28_2, .int .i64 t28_3]] h4 fun v h4 => ∃ t29 : Bool, v = .bool t29 ∧ if (!t29) = true then (Kn (wrap .i64 ((i : Int) + 1)) h4) else (threshold_Suppressed_b2 sid t5 t8 (some ad) L.length cap ((L.length : Nat) : Int) (i : Int) Q Kn h4) := fun hsd => by
      refine (ldB_mk (p4.at0 rfl) (ldI_mk (p4.at rfl) (ldI_mk (p4.at rfl) (ldI_mk (p4.at rfl) ?_))))
      refine ValidPrefix_c x.p hok fun h5 f5 => ⟨_, rfl, ?_⟩
      have F5 := F4.trans f5
      refine ifN (fun er => next F5 (by unfold hitS; rw [hsd, er]; rfl)) fun er => ?_
      have RF := right_of er
      have hh : hitS sid f x = sideB x f := by unfold hitS; rw [hsd, er]; rfl
      rw [hh] at next yes
      unfold threshold_Suppressed_b2
      have p5 := p4.fr0 f5
      have c5 := c4.fr0 f5
      have s5 : Cells h5 (t5.add 1) [.bool f.src.v6, .int .u64 f.src.hi, .int .u64 f.src.lo, .bool f.dst.v6, .int .u64 f.dst.hi, .int .u64 f.dst.lo, .int .i64 f.sport, .int .i64 f.dport] := (g4.fr0 f5).sub 1
      have d5 : Cells h5 (t5.add 4) [.bool f.dst.v6, .int .u64 f.dst.hi, .int .u64 f.dst.lo, .int .i64 f.sport, .int .i64 f.dport] := (g4.fr0 f5).sub 4
      refine (ldB_mk (p5.at0 rfl) (ldI_mk (p5.at rfl) (ldI_mk (p5.at rfl) (ldI_mk (p5.at rfl) ?_))))
      refine (ldB_mk (s5.at0 rfl) (ldI_mk (s5.at rfl) (ldI_mk (s5.at rfl) ?_)))
      refine (ldB_mk (p5.at0 rfl) (ldI_mk (p5.at rfl) (ldI_mk (p5.at rfl) (ldI_mk (p5.at rfl) ?_))))
      refine (ldB_mk (d5.at0 rfl) (ldI_mk (d5.at rfl) (ldI_mk (d5.at rfl) ?_)))
      refine Contains_c x.p f.src hok hs RF fun h6 f6 => ⟨_, rfl, ?_⟩
      have p6 := p5.fr0 f6
      have d6 := d5.fr0 f6
      refine ⟨ldB_mk (p6.at0 rfl) (ldI_mk (p6.at (j := 1) rfl) (ldI_mk (p6.at (j := 2) rfl) (ldI_mk (p6.at (j := 3) rfl) rfl))), ldB_mk (d6.at0 rfl) (ldI_mk (d6.at (j := 1) rfl) (ldI_mk (d6.at (j := 2) rfl) rfl)), ?_⟩
      refine Contains_c x.p f.dst hok hd RF fun h7 f7 => ⟨_, rfl, ?_⟩
      have c7 := (c5.fr0 f6).fr0 f7
      have F7 := (F5.trans f6).trans f7
      have next := fun h => next F7 h
      have yes := fun h => yes F7 h
      unfold sideB at next yes
      generalize insB x.p f.src = b1 at *
      generalize insB x.p f.dst = b2 at *
      have by3 : ∀ (h1 : ¬ (x.by_ = 1 ∧ b1 = true)) (h2 : ¬ (x.by_ = 2 ∧ b2 = true)), ldI h7 (Addr.add t8 1) .i64 fun t58 => if (t58 == 3) = true then (if b1 = true then (Q (.bool true) h7) else (if b2 = true then (Q (.bool true) h7) else (Kn (wrap .i64 ((i : Int) + 1)) h7))) else (Kn (wrap .i64 ((i : Int) + 1)) h7) := fun h1 h2 => by
        have g1 : (decide (x.by_ = 1) && b1) = false := by
          cases hb : b1 with
          | false => rw [Bool.and_false]
          | true => rw [decide_eq_false (fun h => h1 ⟨h, hb⟩)]; rfl
        have g2 : (decide (x.by_ = 2) && b2) = false := by
          cases hb : b2 with
          | false => rw [Bool.and_false]
          | true => rw [decide_eq_false (fun h => h2 ⟨h, hb⟩)]; rfl
        rw [g1, g2] at next yes
        refine ldI_mk (c7.at (j := 1) rfl) (ifE (fun e3 => ?_) fun e3 => next (by rw [decide_eq_false e3]; rfl))
        rw [decide_eq_true e3] at next yes
        refine ifB (fun e4 => yes (by rw [e4]; rfl)) fun e4 => ifB (fun e5 => yes (by rw [e4, e5]; rfl)) fun e5 => next (by rw [e4, e5]; rfl)
      have by2 : ∀ (h1 : ¬ (x.by_ = 1 ∧ b1 = true)), ldI h7 (Addr.add t8 1) .i64 fun t50 => if (t50 == 2) = true then (if b2 = true then (Q (.bool true) h7) else (ldI h7 (Addr.add t8 1) .i64 fun t58 => if (t58 == 3) = true then (if b1 = true then (Q (.bool true) h7) else (if b2 = true then (Q (.bool true) h7) else (Kn (wrap .i64 ((i : Int) + 1)) h7))) else (Kn (wrap .i64 ((i : Int) + 1)) h7))) else (ldI h7 (Addr.add t8 1) .i64 fun t58 => if (t58 == 3) = true then (if b1 = true then (Q (.bool true) h7) else (if b2 = true then (Q (.bool true) h7) else (Kn (wrap .i64 ((i : Int) + 1)) h7))) else (Kn (wrap .i64 ((i : Int) + 1)) h7)) := fun h1 => by
        refine ldI_mk (c7.at (j := 1) rfl) (ifE (fun e3 => ?_) fun e3 => by3 h1 fun h => e3 h.1)
        refine ifB (fun e4 => yes (by rw [decide_eq_true e3, e4]; simp)) fun e4 => by3 h1 fun h => by rw [h.2] at e4; cases e4
      refine ldI_mk (c7.at (j := 1) rfl) (ifE (fun e3 => ?_) fun e3 => by2 fun h => e3 h.1)
      refine ifB (fun e4 => yes (by rw [decide_eq_true e3, e4]; rfl)) fun e4 => by2 fun h => by rw [h.2] at e4; cases e4
    refine ldI_mk (c4.at0 rfl) (ifNe (fun e5 => ?_) fun e5 => rest (by rw [decide_eq_false (fun h => h e5)]; rfl))
    refine ldI_mk (c4.at0 rfl) (ifNe (fun e6 => ?_) fun e6 => rest (by rw [decide_eq_false (p := x.sid ≠ sid) (fun h => h e6), Bool.and_false]))
    exact next F4 (by unfold hitS; rw [decide_eq_true e5, decide_eq_true e6]; rfl)
  · have : i = L.length := by omega
    subst this
    rw [List.take_length] at hno
    have := hk h2 F2
    rw [hno] at this; exact this
end Go.Proofs.Ytfcnplakgmdfiaa
