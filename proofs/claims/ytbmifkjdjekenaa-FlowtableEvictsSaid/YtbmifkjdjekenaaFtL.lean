/-
  The law FlowtablePlays.
-/
import Derived.Test.YtbmifkjdjekenaaFtK
namespace Go.Proofs.Ytbmifkjdjekenaa
set_option linter.unusedSimpArgs false
set_option linter.unusedVariables false
set_option maxRecDepth 20000
open Go
open Go.IntKind (wrap)
attribute [local irreducible] Addr.add stN st1 idxA idxS alV sliceStr LoopV
def callV (kd at_ id v : Int) (f : Fl) : List Value := [.int .i64 kd, .int .i64 at_, .int .i64 id, .int .i64 v, .int .i64 f.proto, .bool f.src.v6, .int .u64 f.src.hi, .int .u64 f.src.lo, .bool f.dst.v6, .int .u64 f.dst.hi, .int .u64 f.dst.lo, .int .i64 f.sport, .int .i64 f.dport]
theorem ifFlN {x : Fl} {X Y : Prop} (h : Y) : if (!((x.proto == x.proto) && (((x.src.v6 == x.src.v6) && ((x.src.hi == x.src.hi) && ((x.src.lo == x.src.lo) && true))) && (((x.dst.v6 == x.dst.v6) && ((x.dst.hi == x.dst.hi) && ((x.dst.lo == x.dst.lo) && true))) && ((x.sport == x.sport) && ((x.dport == x.dport) && true)))))) = true then X else Y := by
  rw [if_neg (by simp)]; exact h
set_option maxHeartbeats 1000000 in
theorem plays_b2 [Gh] {ok1 ok2 : Nat → Prop} {h : Heap} {t x : Addr} {r1 r2 : Nat} {st : St} {S : List PE} {p : Option Addr} {cap : Nat} (A : TabF ok1 h t r1 r2 st S) (B : RefF ok2 h x st p cap) (w : Wf st) {t10 : Addr} {kd at_ id v : Int} {f : Fl} (o10 : Own h t10 (callV kd at_ id v f) T_intrusionlaw22_Call)
    {la : Option Addr} {ln lc : Nat} {i : Int} {Q : Value → Heap → Prop} {Kn : Int → Heap → Prop} (hk : ∀ h', Fr (fun _ => False) h h' → Kn (wrap .i64 (i + 1)) h') : law22_FlowtablePlays_b2 la ln lc (some t) (some x) i t10 Q Kn h := by
  unfold law22_FlowtablePlays_b2
  have H := Hs.pure h
  have cc : Cells h t10 (callV kd at_ id v f) := o10.cells
  repeat (first | (first | refine ldI_mk (by first | exact cc.at rfl | exact cc.at0 rfl) ?_ | refine ldB_mk (by first | exact cc.at rfl | exact cc.at0 rfl) ?_ | refine ldL_mk (by first | exact cc.at rfl | exact cc.at0 rfl) ?_ | refine ldP_mk (by first | exact cc.at rfl | exact cc.at0 rfl) ?_ | refine ldS_mk (by first | exact cc.at rfl | exact cc.at0 rfl) ?_ | refine ldM_mk (by first | exact cc.at rfl | exact cc.at0 rfl) ?_) | refine nn_mk ?_ | refine And.intro (by (repeat (first | refine ldI_mk (by first | exact cc.at rfl | exact cc.at0 rfl) ?_ | refine ldB_mk (by first | exact cc.at rfl | exact cc.at0 rfl) ?_ | refine ldL_mk (by first | exact cc.at rfl | exact cc.at0 rfl) ?_ | refine ldP_mk (by first | exact cc.at rfl | exact cc.at0 rfl) ?_ | refine ldS_mk (by first | exact cc.at rfl | exact cc.at0 rfl) ?_ | refine ldM_mk (by first | exact cc.at rfl | exact cc.at0 rfl) ?_)); exact rfl) ?_ | refine ifNS ?_ | refine And.intro (by decide) ?_)
  refine find_c A w f fun h1 f1 => ⟨_, _, _, rfl, ?_⟩
  have H := H.call0 f1
  have cc := cc.fr0 f1
  repeat (first | (first | refine ldI_mk (by first | exact cc.at rfl | exact cc.at0 rfl) ?_ | refine ldB_mk (by first | exact cc.at rfl | exact cc.at0 rfl) ?_ | refine ldL_mk (by first | exact cc.at rfl | exact cc.at0 rfl) ?_ | refine ldP_mk (by first | exact cc.at rfl | exact cc.at0 rfl) ?_ | refine ldS_mk (by first | exact cc.at rfl | exact cc.at0 rfl) ?_ | refine ldM_mk (by first | exact cc.at rfl | exact cc.at0 rfl) ?_) | refine nn_mk ?_ | refine And.intro (by (repeat (first | refine ldI_mk (by first | exact cc.at rfl | exact cc.at0 rfl) ?_ | refine ldB_mk (by first | exact cc.at rfl | exact cc.at0 rfl) ?_ | refine ldL_mk (by first | exact cc.at rfl | exact cc.at0 rfl) ?_ | refine ldP_mk (by first | exact cc.at rfl | exact cc.at0 rfl) ?_ | refine ldS_mk (by first | exact cc.at rfl | exact cc.at0 rfl) ?_ | refine ldM_mk (by first | exact cc.at rfl | exact cc.at0 rfl) ?_)); exact rfl) ?_ | refine ifNS ?_ | refine And.intro (by decide) ?_)
  refine rFind_c (B.fr0 H.fr0) w.len64 f fun h2 f2 => ⟨_, _, _, rfl, ?_⟩
  have H := H.call0 f2
  have cc := cc.fr0 f2
  repeat (first | (first | refine ldI_mk (by first | exact cc.at rfl | exact cc.at0 rfl) ?_ | refine ldB_mk (by first | exact cc.at rfl | exact cc.at0 rfl) ?_ | refine ldL_mk (by first | exact cc.at rfl | exact cc.at0 rfl) ?_ | refine ldP_mk (by first | exact cc.at rfl | exact cc.at0 rfl) ?_ | refine ldS_mk (by first | exact cc.at rfl | exact cc.at0 rfl) ?_ | refine ldM_mk (by first | exact cc.at rfl | exact cc.at0 rfl) ?_) | refine nn_mk ?_ | refine And.intro (by (repeat (first | refine ldI_mk (by first | exact cc.at rfl | exact cc.at0 rfl) ?_ | refine ldB_mk (by first | exact cc.at rfl | exact cc.at0 rfl) ?_ | refine ldL_mk (by first | exact cc.at rfl | exact cc.at0 rfl) ?_ | refine ldP_mk (by first | exact cc.at rfl | exact cc.at0 rfl) ?_ | refine ldS_mk (by first | exact cc.at rfl | exact cc.at0 rfl) ?_ | refine ldM_mk (by first | exact cc.at rfl | exact cc.at0 rfl) ?_)); exact rfl) ?_ | refine ifNS ?_ | refine And.intro (by decide) ?_)
  refine key_c (A.fr0 H.fr0) w id fun h3 f3 => ⟨_, _, _, _, _, _, _, _, _, _, rfl, ?_⟩
  have H := H.call0 f3
  have cc := cc.fr0 f3
  refine al_H H fun t23 h4 H l23 => ?_
  refine stN_H H 0 rfl (by rfl) (by rfl) fun h5 H => ?_
  have cc : Cells h5 t10 (callV kd at_ id v f) := (o10.fr0 H.fr0).cells
  repeat (first | (first | refine ldI_mk (by first | exact cc.at rfl | exact cc.at0 rfl) ?_ | refine ldB_mk (by first | exact cc.at rfl | exact cc.at0 rfl) ?_ | refine ldL_mk (by first | exact cc.at rfl | exact cc.at0 rfl) ?_ | refine ldP_mk (by first | exact cc.at rfl | exact cc.at0 rfl) ?_ | refine ldS_mk (by first | exact cc.at rfl | exact cc.at0 rfl) ?_ | refine ldM_mk (by first | exact cc.at rfl | exact cc.at0 rfl) ?_) | refine nn_mk ?_ | refine And.intro (by (repeat (first | refine ldI_mk (by first | exact cc.at rfl | exact cc.at0 rfl) ?_ | refine ldB_mk (by first | exact cc.at rfl | exact cc.at0 rfl) ?_ | refine ldL_mk (by first | exact cc.at rfl | exact cc.at0 rfl) ?_ | refine ldP_mk (by first | exact cc.at rfl | exact cc.at0 rfl) ?_ | refine ldS_mk (by first | exact cc.at rfl | exact cc.at0 rfl) ?_ | refine ldM_mk (by first | exact cc.at rfl | exact cc.at0 rfl) ?_)); exact rfl) ?_ | refine ifNS ?_ | refine And.intro (by decide) ?_)
  refine rKey_c (B.fr0 H.fr0) w id fun h6 f6 => ⟨_, _, _, _, _, _, _, _, _, _, rfl, ?_⟩
  have H := H.call0 f6
  refine al_H H fun t25 h7 H l25 => ?_
  refine stN_H H 0 rfl (by rfl) (by rfl) fun h8 H => ?_
  rw [if_neg (by simp), if_neg (by simp), if_neg (by simp)]
  have C0 := (H.get 0 rfl).cells; have C1 := (H.get 1 rfl).cells; repeat (first | (first | refine ldI_mk (by first | exact C0.at rfl | exact C0.at0 rfl | exact C1.at rfl | exact C1.at0 rfl) ?_ | refine ldB_mk (by first | exact C0.at rfl | exact C0.at0 rfl | exact C1.at rfl | exact C1.at0 rfl) ?_ | refine ldL_mk (by first | exact C0.at rfl | exact C0.at0 rfl | exact C1.at rfl | exact C1.at0 rfl) ?_ | refine ldP_mk (by first | exact C0.at rfl | exact C0.at0 rfl | exact C1.at rfl | exact C1.at0 rfl) ?_ | refine ldS_mk (by first | exact C0.at rfl | exact C0.at0 rfl | exact C1.at rfl | exact C1.at0 rfl) ?_ | refine ldM_mk (by first | exact C0.at rfl | exact C0.at0 rfl | exact C1.at rfl | exact C1.at0 rfl) ?_) | refine nn_mk ?_ | refine And.intro (by (repeat (first | refine ldI_mk (by first | exact C0.at rfl | exact C0.at0 rfl | exact C1.at rfl | exact C1.at0 rfl) ?_ | refine ldB_mk (by first | exact C0.at rfl | exact C0.at0 rfl | exact C1.at rfl | exact C1.at0 rfl) ?_ | refine ldL_mk (by first | exact C0.at rfl | exact C0.at0 rfl | exact C1.at rfl | exact C1.at0 rfl) ?_ | refine ldP_mk (by first | exact C0.at rfl | exact C0.at0 rfl | exact C1.at rfl | exact C1.at0 rfl) ?_ | refine ldS_mk (by first | exact C0.at rfl | exact C0.at0 rfl | exact C1.at rfl | exact C1.at0 rfl) ?_ | refine ldM_mk (by first | exact C0.at rfl | exact C0.at0 rfl | exact C1.at rfl | exact C1.at0 rfl) ?_)); exact rfl) ?_ | refine ifNS ?_ | refine And.intro (by decide) ?_)
  refine ifFlN (x := (keyS st.L id).1) ?_
  rw [if_neg (by simp)]
  refine ids_c (A.fr0 H.fr0) w fun p1 c1 h9 f9 R9 _ => ⟨_, _, _, rfl, ?_⟩
  have H := H.call0 f9
  refine rIds_c (B.fr0 H.fr0) w fun p2 c2 h10 f10 R10 _ => ⟨_, _, _, rfl, ?_⟩
  have H := H.call0 f10
  have hl := w.len64
  refine same_c (R9.fr0 f10) R10 (by simp; omega) ⟨_, rfl, ?_⟩
  rw [if_neg (by simp)]
  have cc : Cells h10 t10 (callV kd at_ id v f) := (o10.fr0 H.fr0).cells
  repeat (first | (first | refine ldI_mk (by first | exact cc.at rfl | exact cc.at0 rfl) ?_ | refine ldB_mk (by first | exact cc.at rfl | exact cc.at0 rfl) ?_ | refine ldL_mk (by first | exact cc.at rfl | exact cc.at0 rfl) ?_ | refine ldP_mk (by first | exact cc.at rfl | exact cc.at0 rfl) ?_ | refine ldS_mk (by first | exact cc.at rfl | exact cc.at0 rfl) ?_ | refine ldM_mk (by first | exact cc.at rfl | exact cc.at0 rfl) ?_) | refine nn_mk ?_ | refine And.intro (by (repeat (first | refine ldI_mk (by first | exact cc.at rfl | exact cc.at0 rfl) ?_ | refine ldB_mk (by first | exact cc.at rfl | exact cc.at0 rfl) ?_ | refine ldL_mk (by first | exact cc.at rfl | exact cc.at0 rfl) ?_ | refine ldP_mk (by first | exact cc.at rfl | exact cc.at0 rfl) ?_ | refine ldS_mk (by first | exact cc.at rfl | exact cc.at0 rfl) ?_ | refine ldM_mk (by first | exact cc.at rfl | exact cc.at0 rfl) ?_)); exact rfl) ?_ | refine ifNS ?_ | refine And.intro (by decide) ?_)
  refine reverse_c f fun h11 f11 => ⟨_, _, _, _, _, _, _, _, _, rfl, ?_⟩
  have H := H.call0 f11
  have cc := cc.fr0 f11
  repeat (first | (first | refine ldI_mk (by first | exact cc.at rfl | exact cc.at0 rfl) ?_ | refine ldB_mk (by first | exact cc.at rfl | exact cc.at0 rfl) ?_ | refine ldL_mk (by first | exact cc.at rfl | exact cc.at0 rfl) ?_ | refine ldP_mk (by first | exact cc.at rfl | exact cc.at0 rfl) ?_ | refine ldS_mk (by first | exact cc.at rfl | exact cc.at0 rfl) ?_ | refine ldM_mk (by first | exact cc.at rfl | exact cc.at0 rfl) ?_) | refine nn_mk ?_ | refine And.intro (by (repeat (first | refine ldI_mk (by first | exact cc.at rfl | exact cc.at0 rfl) ?_ | refine ldB_mk (by first | exact cc.at rfl | exact cc.at0 rfl) ?_ | refine ldL_mk (by first | exact cc.at rfl | exact cc.at0 rfl) ?_ | refine ldP_mk (by first | exact cc.at rfl | exact cc.at0 rfl) ?_ | refine ldS_mk (by first | exact cc.at rfl | exact cc.at0 rfl) ?_ | refine ldM_mk (by first | exact cc.at rfl | exact cc.at0 rfl) ?_)); exact rfl) ?_ | refine ifNS ?_ | refine And.intro (by decide) ?_)
  refine rReverse_c f fun h12 f12 => ⟨_, _, _, _, _, _, _, _, _, rfl, ?_⟩
  refine ifFlN (x := f.rev) ?_
  exact hk h12 (H.call0 f12).fr0
set_option maxHeartbeats 1000000 in
theorem FlowtablePlays_c [Gh] (most timeout : Int) (w : Sl S_intrusionlaw22_Call) {h : Heap} (_ : kOk .i64 h most) (_ : kOk .i64 h timeout) (ow : SlOk 13 S_intrusionlaw22_Call.vals S_intrusionlaw22_Call.ok h w) {Q : Value → Heap → Prop} (hk : ∀ h', Fr (fun _ => False) h h' → Q (.bool true) h') :
    CallT Try.prog fn_law22_FlowtablePlays #[.int .i64 most, .int .i64 timeout, .slice w.p w.xs.length w.cap] h Q := by
  apply law22_FlowtablePlays_s
  unfold law22_FlowtablePlays_v
  refine ifD (fun _ => awake_c fun h' f => ⟨_, rfl, hk h' f⟩) fun hn => ?_
  refine new_c most timeout fun t r1 r2 h2 f2 A2 => ⟨_, rfl, ifNS ?_⟩
  have z2 := f2.size
  refine rNew_c most timeout fun y h3 f3 B3 => ⟨_, rfl, ?_⟩
  have z3 := f3.size
  have T3 : TwoF (fun b => h.size ≤ b) h3 t y (newS most timeout) (newS most timeout) := by
    refine ⟨fun b => h.size ≤ b ∧ b < h2.size, fun b => h2.size ≤ b ∧ b < h3.size, r1, r2, [], none, 0, (A2.to ⟨A2.okt, A2.own.lt⟩ ⟨A2.okr.1, A2.m1.lt⟩ ⟨A2.okr.2, A2.m2.lt⟩ fun c hc => by cases hc).fr0 f3, ⟨B3.own, B3.row, fun b hb => (notInA hb).elim, B3.okx, B3.own.lt⟩, fun b h1 h2 => by omega, fun b hb => by omega⟩
  have f13 : Fr (fun _ => False) h h3 := f2.trans f3
  refine LoopV.mk (fun s h' => ∃ (i : Nat) (st : St), s = (i : Int) ∧ i ≤ w.xs.length ∧ Fr (fun b => h.size ≤ b) h3 h' ∧ TwoF (fun b => h.size ≤ b) h' t y st st ∧ Wf st ∧ st.used ≤ i) (fun s _ => w.xs.length - s.toNat)
    ⟨0, _, rfl, by omega, Fr.refl _ _, T3, newS_wf _ _, by show (0 : Int) ≤ 0; omega⟩ ?_
  rintro - h4 ⟨i, st, rfl, hin, f4, T4, wf, hu⟩
  have f14 : Fr (fun _ => False) h h4 := f13.tr f4 fun b hb hi => by omega
  have z4 := f4.size
  unfold law22_FlowtablePlays_l1
  refine ifD (fun hi => ?_) fun hi => ?_
  · have hlt : i < w.xs.length := by omega
    refine idx_sl (SlOk.fr0 S_intrusionlaw22_Call.ok_fr f14 ow) i rfl hlt fun ad c _ => ?_
    rw [Int.toNat_natCast]
    generalize w.xs[i] = cl at *
    obtain ⟨fl, hfl⟩ : ∃ fl : Fl, fl = ⟨cl.F.Proto, ⟨cl.F.Src.V6, cl.F.Src.Hi, cl.F.Src.Lo⟩, ⟨cl.F.Dst.V6, cl.F.Dst.Hi, cl.F.Dst.Lo⟩, cl.F.Sport, cl.F.Dport⟩ := ⟨_, rfl⟩
    have e6 : cl.vals = callV cl.Kind cl.At cl.Id cl.Value fl := by rw [hfl]; rfl
    rw [e6] at c
    clear e6 hfl
    generalize cl.Kind = kd at *
    generalize cl.At = at_ at *
    generalize cl.Id = id at *
    generalize cl.Value = v at *
    have H := Hs.pure h4
    repeat (first | (first | refine ldI_mk (by first | exact c.at rfl | exact c.at0 rfl) ?_ | refine ldB_mk (by first | exact c.at rfl | exact c.at0 rfl) ?_ | refine ldL_mk (by first | exact c.at rfl | exact c.at0 rfl) ?_ | refine ldP_mk (by first | exact c.at rfl | exact c.at0 rfl) ?_ | refine ldS_mk (by first | exact c.at rfl | exact c.at0 rfl) ?_ | refine ldM_mk (by first | exact c.at rfl | exact c.at0 rfl) ?_) | refine nn_mk ?_ | refine And.intro (by (repeat (first | refine ldI_mk (by first | exact c.at rfl | exact c.at0 rfl) ?_ | refine ldB_mk (by first | exact c.at rfl | exact c.at0 rfl) ?_ | refine ldL_mk (by first | exact c.at rfl | exact c.at0 rfl) ?_ | refine ldP_mk (by first | exact c.at rfl | exact c.at0 rfl) ?_ | refine ldS_mk (by first | exact c.at rfl | exact c.at0 rfl) ?_ | refine ldM_mk (by first | exact c.at rfl | exact c.at0 rfl) ?_)); exact rfl) ?_ | refine ifNS ?_ | refine And.intro (by decide) ?_)
    refine al_mk (vs := _) fun t10 h5' f5' e5 o5' => ?_
    refine stN_own o5' (ws := callV kd at_ id v fl) (by rfl) (by rfl) fun h5 f5'' s5 o10 => ?_
    have f5 : Fr (fun _ => False) h4 h5 := f5'.tr f5'' fun b hb hi => by omega
    have z5 := f5.size
    have l10 := o10.lt
    have T5 : TwoF (fun b => h.size ≤ b ∧ b ≠ t10.block) h5 t y st st := (T4.to fun b hb hi => ⟨hi, by omega⟩).fr0 f5
    have f45 : Fr (fun b => h.size ≤ b) h3 h5 := f4.trans (f5.mono fun _ h => h.elim)
    have hu2 : st.used + 1 ≤ 2 ^ 40 := by have : (i : Int) ≤ 100 := by omega
                                          omega
    have hD : ∀ {a : Heap}, h5.size ≤ a.size → ∀ b, a.size ≤ b → h.size ≤ b ∧ b ≠ t10.block := fun hz b hb => by omega
    have cont : ∀ (h' : Heap) (s' : St), Fr (fun b => h.size ≤ b ∧ b ≠ t10.block) h5 h' → TwoF (fun b => h.size ≤ b ∧ b ≠ t10.block) h' t y s' s' → Wf s' → s'.used ≤ (i : Int) + 1 → law22_FlowtablePlays_b2 w.p w.xs.length w.cap (some t) (some y) (i : Int) t10 Q
        (fun s'' h' => (∃ (k : Nat) (st : St), s'' = (k : Int) ∧ k ≤ w.xs.length ∧ Fr (fun b => h.size ≤ b) h3 h' ∧ TwoF (fun b => h.size ≤ b) h' t y st st ∧ Wf st ∧ st.used ≤ k) ∧ w.xs.length - s''.toNat < w.xs.length - (i : Int).toNat) h' := by
      intro h' s' f' T' w' hu'
      have T'' := T'
      obtain ⟨okP, okR, q1, q2, S', p', cap', A', B', dj, lt⟩ := T'
      refine plays_b2 A' B' w' (o10.fr f' fun h => h.2 rfl) fun h'' f'' => ?_
      rw [wr (by omega) (by omega)]
      exact ⟨⟨i + 1, s', rfl, hlt, (f45.trans (f'.mono fun b h => h.1)).trans (f''.mono fun _ h => h.elim), (T''.fr0 f'').to fun b _ h => h.1, w', by omega⟩, by omega⟩
    have cc : Cells h5 t10 (callV kd at_ id v fl) := o10.cells
    clear H
    have H := Hs.pure h5
    repeat (first | (first | refine ldI_mk (by first | exact cc.at rfl | exact cc.at0 rfl) ?_ | refine ldB_mk (by first | exact cc.at rfl | exact cc.at0 rfl) ?_ | refine ldL_mk (by first | exact cc.at rfl | exact cc.at0 rfl) ?_ | refine ldP_mk (by first | exact cc.at rfl | exact cc.at0 rfl) ?_ | refine ldS_mk (by first | exact cc.at rfl | exact cc.at0 rfl) ?_ | refine ldM_mk (by first | exact cc.at rfl | exact cc.at0 rfl) ?_) | refine nn_mk ?_ | refine And.intro (by (repeat (first | refine ldI_mk (by first | exact cc.at rfl | exact cc.at0 rfl) ?_ | refine ldB_mk (by first | exact cc.at rfl | exact cc.at0 rfl) ?_ | refine ldL_mk (by first | exact cc.at rfl | exact cc.at0 rfl) ?_ | refine ldP_mk (by first | exact cc.at rfl | exact cc.at0 rfl) ?_ | refine ldS_mk (by first | exact cc.at rfl | exact cc.at0 rfl) ?_ | refine ldM_mk (by first | exact cc.at rfl | exact cc.at0 rfl) ?_)); exact rfl) ?_ | refine ifNS ?_ | refine And.intro (by decide) ?_)
    refine ifE (fun _ => ?_) fun _ => ?_
    · repeat (first | (first | refine ldI_mk (by first | exact cc.at rfl | exact cc.at0 rfl) ?_ | refine ldB_mk (by first | exact cc.at rfl | exact cc.at0 rfl) ?_ | refine ldL_mk (by first | exact cc.at rfl | exact cc.at0 rfl) ?_ | refine ldP_mk (by first | exact cc.at rfl | exact cc.at0 rfl) ?_ | refine ldS_mk (by first | exact cc.at rfl | exact cc.at0 rfl) ?_ | refine ldM_mk (by first | exact cc.at rfl | exact cc.at0 rfl) ?_) | refine nn_mk ?_ | refine And.intro (by (repeat (first | refine ldI_mk (by first | exact cc.at rfl | exact cc.at0 rfl) ?_ | refine ldB_mk (by first | exact cc.at rfl | exact cc.at0 rfl) ?_ | refine ldL_mk (by first | exact cc.at rfl | exact cc.at0 rfl) ?_ | refine ldP_mk (by first | exact cc.at rfl | exact cc.at0 rfl) ?_ | refine ldS_mk (by first | exact cc.at rfl | exact cc.at0 rfl) ?_ | refine ldM_mk (by first | exact cc.at rfl | exact cc.at0 rfl) ?_)); exact rfl) ?_ | refine ifNS ?_ | refine And.intro (by decide) ?_)
      obtain ⟨ok, q1, q2, S', A', hok, up, _⟩ := T5.prog (hD (Nat.le_refl _))
      refine open_c A' wf hok at_ fl v fun a b c s h6 S6 o f6 A6 => ⟨_, _, _, rfl, ?_⟩
      obtain ⟨T6, g6⟩ := up h6 s S6 f6 A6
      have cc : Cells h6 t10 (callV kd at_ id v fl) := (o10.fr g6 fun h => h.2 rfl).cells
      repeat (first | (first | refine ldI_mk (by first | exact cc.at rfl | exact cc.at0 rfl) ?_ | refine ldB_mk (by first | exact cc.at rfl | exact cc.at0 rfl) ?_ | refine ldL_mk (by first | exact cc.at rfl | exact cc.at0 rfl) ?_ | refine ldP_mk (by first | exact cc.at rfl | exact cc.at0 rfl) ?_ | refine ldS_mk (by first | exact cc.at rfl | exact cc.at0 rfl) ?_ | refine ldM_mk (by first | exact cc.at rfl | exact cc.at0 rfl) ?_) | refine nn_mk ?_ | refine And.intro (by (repeat (first | refine ldI_mk (by first | exact cc.at rfl | exact cc.at0 rfl) ?_ | refine ldB_mk (by first | exact cc.at rfl | exact cc.at0 rfl) ?_ | refine ldL_mk (by first | exact cc.at rfl | exact cc.at0 rfl) ?_ | refine ldP_mk (by first | exact cc.at rfl | exact cc.at0 rfl) ?_ | refine ldS_mk (by first | exact cc.at rfl | exact cc.at0 rfl) ?_ | refine ldM_mk (by first | exact cc.at rfl | exact cc.at0 rfl) ?_)); exact rfl) ?_ | refine ifNS ?_ | refine And.intro (by decide) ?_)
      have z6 := g6.size
      obtain ⟨ok', p', cap', B', hok', up', _⟩ := T6.ref (hD z6)
      refine rOpen_c B' hok' wf at_ fl v fun a' b' c' s' h7 p7 cap7 o' f7 B7 => ⟨_, _, _, rfl, ?_⟩
      obtain ⟨T7, g7⟩ := up' h7 s' p7 cap7 f7 B7
      have w6 := o.wf wf hu2
      have u6 : s.used ≤ (i : Int) + 1 := by cases o <;> first | (show st.used + 1 ≤ _; omega) | omega
      obtain ⟨rfl, rfl, rfl, rfl⟩ := o.uniq wf o'
      rw [if_neg (by simp), if_neg (by simp), if_neg (by simp)]
      exact cont h7 s (g6.trans g7) T7 w6 u6
    refine ifE (fun _ => ?_) fun _ => ?_
    · repeat (first | (first | refine ldI_mk (by first | exact cc.at rfl | exact cc.at0 rfl) ?_ | refine ldB_mk (by first | exact cc.at rfl | exact cc.at0 rfl) ?_ | refine ldL_mk (by first | exact cc.at rfl | exact cc.at0 rfl) ?_ | refine ldP_mk (by first | exact cc.at rfl | exact cc.at0 rfl) ?_ | refine ldS_mk (by first | exact cc.at rfl | exact cc.at0 rfl) ?_ | refine ldM_mk (by first | exact cc.at rfl | exact cc.at0 rfl) ?_) | refine nn_mk ?_ | refine And.intro (by (repeat (first | refine ldI_mk (by first | exact cc.at rfl | exact cc.at0 rfl) ?_ | refine ldB_mk (by first | exact cc.at rfl | exact cc.at0 rfl) ?_ | refine ldL_mk (by first | exact cc.at rfl | exact cc.at0 rfl) ?_ | refine ldP_mk (by first | exact cc.at rfl | exact cc.at0 rfl) ?_ | refine ldS_mk (by first | exact cc.at rfl | exact cc.at0 rfl) ?_ | refine ldM_mk (by first | exact cc.at rfl | exact cc.at0 rfl) ?_)); exact rfl) ?_ | refine ifNS ?_ | refine And.intro (by decide) ?_)
      obtain ⟨ok, q1, q2, S', A', hok, up, _⟩ := T5.prog (hD (Nat.le_refl _))
      refine touch_c A' at_ id fun h6 S6 f6 A6 => ⟨_, rfl, ?_⟩
      obtain ⟨T6, g6⟩ := up h6 _ S6 f6 A6
      have cc : Cells h6 t10 (callV kd at_ id v fl) := (o10.fr g6 fun h => h.2 rfl).cells
      repeat (first | (first | refine ldI_mk (by first | exact cc.at rfl | exact cc.at0 rfl) ?_ | refine ldB_mk (by first | exact cc.at rfl | exact cc.at0 rfl) ?_ | refine ldL_mk (by first | exact cc.at rfl | exact cc.at0 rfl) ?_ | refine ldP_mk (by first | exact cc.at rfl | exact cc.at0 rfl) ?_ | refine ldS_mk (by first | exact cc.at rfl | exact cc.at0 rfl) ?_ | refine ldM_mk (by first | exact cc.at rfl | exact cc.at0 rfl) ?_) | refine nn_mk ?_ | refine And.intro (by (repeat (first | refine ldI_mk (by first | exact cc.at rfl | exact cc.at0 rfl) ?_ | refine ldB_mk (by first | exact cc.at rfl | exact cc.at0 rfl) ?_ | refine ldL_mk (by first | exact cc.at rfl | exact cc.at0 rfl) ?_ | refine ldP_mk (by first | exact cc.at rfl | exact cc.at0 rfl) ?_ | refine ldS_mk (by first | exact cc.at rfl | exact cc.at0 rfl) ?_ | refine ldM_mk (by first | exact cc.at rfl | exact cc.at0 rfl) ?_)); exact rfl) ?_ | refine ifNS ?_ | refine And.intro (by decide) ?_)
      have z6 := g6.size
      obtain ⟨ok', p', cap', B', hok', up', _⟩ := T6.ref (hD z6)
      refine rTouch_c B' wf at_ id fun h7 f7 B7 => ⟨_, rfl, ?_⟩
      obtain ⟨T7, g7⟩ := up' h7 _ _ _ f7 B7
      rw [if_neg (by simp)]
      exact cont h7 _ (g6.trans g7) T7 (touch_wf wf _ _) (by unfold touchS; split <;> (try split) <;> (try show st.used ≤ _) <;> omega)
    refine ifE (fun _ => ?_) fun _ => ?_
    · repeat (first | (first | refine ldI_mk (by first | exact cc.at rfl | exact cc.at0 rfl) ?_ | refine ldB_mk (by first | exact cc.at rfl | exact cc.at0 rfl) ?_ | refine ldL_mk (by first | exact cc.at rfl | exact cc.at0 rfl) ?_ | refine ldP_mk (by first | exact cc.at rfl | exact cc.at0 rfl) ?_ | refine ldS_mk (by first | exact cc.at rfl | exact cc.at0 rfl) ?_ | refine ldM_mk (by first | exact cc.at rfl | exact cc.at0 rfl) ?_) | refine nn_mk ?_ | refine And.intro (by (repeat (first | refine ldI_mk (by first | exact cc.at rfl | exact cc.at0 rfl) ?_ | refine ldB_mk (by first | exact cc.at rfl | exact cc.at0 rfl) ?_ | refine ldL_mk (by first | exact cc.at rfl | exact cc.at0 rfl) ?_ | refine ldP_mk (by first | exact cc.at rfl | exact cc.at0 rfl) ?_ | refine ldS_mk (by first | exact cc.at rfl | exact cc.at0 rfl) ?_ | refine ldM_mk (by first | exact cc.at rfl | exact cc.at0 rfl) ?_)); exact rfl) ?_ | refine ifNS ?_ | refine And.intro (by decide) ?_)
      obtain ⟨ok, q1, q2, S', A', hok, up, _⟩ := T5.prog (hD (Nat.le_refl _))
      refine remove_c A' id fun h6 S6 f6 A6 => ⟨_, rfl, ?_⟩
      obtain ⟨T6, g6⟩ := up h6 _ S6 f6 A6
      have cc : Cells h6 t10 (callV kd at_ id v fl) := (o10.fr g6 fun h => h.2 rfl).cells
      repeat (first | (first | refine ldI_mk (by first | exact cc.at rfl | exact cc.at0 rfl) ?_ | refine ldB_mk (by first | exact cc.at rfl | exact cc.at0 rfl) ?_ | refine ldL_mk (by first | exact cc.at rfl | exact cc.at0 rfl) ?_ | refine ldP_mk (by first | exact cc.at rfl | exact cc.at0 rfl) ?_ | refine ldS_mk (by first | exact cc.at rfl | exact cc.at0 rfl) ?_ | refine ldM_mk (by first | exact cc.at rfl | exact cc.at0 rfl) ?_) | refine nn_mk ?_ | refine And.intro (by (repeat (first | refine ldI_mk (by first | exact cc.at rfl | exact cc.at0 rfl) ?_ | refine ldB_mk (by first | exact cc.at rfl | exact cc.at0 rfl) ?_ | refine ldL_mk (by first | exact cc.at rfl | exact cc.at0 rfl) ?_ | refine ldP_mk (by first | exact cc.at rfl | exact cc.at0 rfl) ?_ | refine ldS_mk (by first | exact cc.at rfl | exact cc.at0 rfl) ?_ | refine ldM_mk (by first | exact cc.at rfl | exact cc.at0 rfl) ?_)); exact rfl) ?_ | refine ifNS ?_ | refine And.intro (by decide) ?_)
      have z6 := g6.size
      obtain ⟨ok', p', cap', B', hok', up', _⟩ := T6.ref (hD z6)
      refine rRemove_c B' hok' wf id fun h7 p7 cap7 f7 B7 => ⟨_, rfl, ?_⟩
      obtain ⟨T7, g7⟩ := up' h7 _ _ _ f7 B7
      rw [if_neg (by simp)]
      exact cont h7 _ (g6.trans g7) T7 (remove_wf wf _) (by unfold removeS; split <;> (try show st.used ≤ _) <;> omega)
    refine ifE (fun _ => ?_) fun _ => ?_
    · repeat (first | (first | refine ldI_mk (by first | exact cc.at rfl | exact cc.at0 rfl) ?_ | refine ldB_mk (by first | exact cc.at rfl | exact cc.at0 rfl) ?_ | refine ldL_mk (by first | exact cc.at rfl | exact cc.at0 rfl) ?_ | refine ldP_mk (by first | exact cc.at rfl | exact cc.at0 rfl) ?_ | refine ldS_mk (by first | exact cc.at rfl | exact cc.at0 rfl) ?_ | refine ldM_mk (by first | exact cc.at rfl | exact cc.at0 rfl) ?_) | refine nn_mk ?_ | refine And.intro (by (repeat (first | refine ldI_mk (by first | exact cc.at rfl | exact cc.at0 rfl) ?_ | refine ldB_mk (by first | exact cc.at rfl | exact cc.at0 rfl) ?_ | refine ldL_mk (by first | exact cc.at rfl | exact cc.at0 rfl) ?_ | refine ldP_mk (by first | exact cc.at rfl | exact cc.at0 rfl) ?_ | refine ldS_mk (by first | exact cc.at rfl | exact cc.at0 rfl) ?_ | refine ldM_mk (by first | exact cc.at rfl | exact cc.at0 rfl) ?_)); exact rfl) ?_ | refine ifNS ?_ | refine And.intro (by decide) ?_)
      have hD5 := hD (Nat.le_refl h5.size)
      obtain ⟨okP, okR, q1, q2, S', p', cap', A, B, dj, lt⟩ := T5
      have A' := A.to (ok' := fun b => okP b ∨ h5.size ≤ b) (.inl A.okt) (.inl A.okr.1) (.inl A.okr.2) (fun c hc => .inl (A.cp c hc).2.2.2)
      refine expire_c A' wf at_ fun p6 c6 h6 S6 f6 A6 R6 hp6 => ⟨_, _, _, rfl, ?_⟩
      have z6 := f6.size
      have g6 : Fr (fun b => h.size ≤ b ∧ b ≠ t10.block) h5 h6 := f6.mono fun b hb => by rcases hb with h | h; exact (lt b (.inl h)).1; exact hD5 b h
      have cc : Cells h6 t10 (callV kd at_ id v fl) := (o10.fr g6 fun h => h.2 rfl).cells
      repeat (first | (first | refine ldI_mk (by first | exact cc.at rfl | exact cc.at0 rfl) ?_ | refine ldB_mk (by first | exact cc.at rfl | exact cc.at0 rfl) ?_ | refine ldL_mk (by first | exact cc.at rfl | exact cc.at0 rfl) ?_ | refine ldP_mk (by first | exact cc.at rfl | exact cc.at0 rfl) ?_ | refine ldS_mk (by first | exact cc.at rfl | exact cc.at0 rfl) ?_ | refine ldM_mk (by first | exact cc.at rfl | exact cc.at0 rfl) ?_) | refine nn_mk ?_ | refine And.intro (by (repeat (first | refine ldI_mk (by first | exact cc.at rfl | exact cc.at0 rfl) ?_ | refine ldB_mk (by first | exact cc.at rfl | exact cc.at0 rfl) ?_ | refine ldL_mk (by first | exact cc.at rfl | exact cc.at0 rfl) ?_ | refine ldP_mk (by first | exact cc.at rfl | exact cc.at0 rfl) ?_ | refine ldS_mk (by first | exact cc.at rfl | exact cc.at0 rfl) ?_ | refine ldM_mk (by first | exact cc.at rfl | exact cc.at0 rfl) ?_)); exact rfl) ?_ | refine ifNS ?_ | refine And.intro (by decide) ?_)
      have B6 := B.fr f6 fun b hb h1 h2 => by
        rcases h1 with h1 | h1
        · exact dj b h1 h2
        · omega
      have B6 : RefF (fun b => okR b ∨ h6.size ≤ b) h6 y st p' cap' := ⟨B6.own, B6.row, fun b hb => ⟨(B6.pb b hb).1, .inl (B6.pb b hb).2⟩, .inl B6.okx⟩
      refine rExpire_c B6 (fun b hb => .inr hb) wf at_ fun q7 c7 h7 p7 cap7 f7 B7 R7 hq7 => ⟨_, _, _, rfl, ?_⟩
      have z7 := f7.size
      have g7 : Fr (fun b => h.size ≤ b ∧ b ≠ t10.block) h6 h7 := f7.mono fun b hb => by rcases hb with h | h; exact (lt b (.inr h)).1; exact hD5 b (by omega)
      have R6' := R6.fr f7 fun b hb h => by
        have h1 := hp6 b hb
        have h2 := R6.lt hb
        rcases h with h | h
        · have := (lt b (.inr h)).2; omega
        · omega
      have w6 := expire_wf wf at_
      have hle : (expireS st at_).1.length ≤ 64 := by
        have := wf.len64
        unfold expireS; split
        · simp
        · rw [List.length_map]; exact Nat.le_trans (List.length_filter_le ..) this
      refine same_c R6' R7 (by omega) ⟨_, rfl, ?_⟩
      rw [if_neg (by simp)]
      refine cont h7 _ (g6.trans g7) ⟨fun b => (okP b ∨ h5.size ≤ b) ∧ b < h6.size, fun b => (okR b ∨ h6.size ≤ b) ∧ b < h7.size, q1, q2, S6, p7, cap7, (A6.to ⟨A6.okt, A6.own.lt⟩ ⟨A6.okr.1, A6.m1.lt⟩ ⟨A6.okr.2, A6.m2.lt⟩ fun c hc => ⟨(A6.cp c hc).2.2.2, (A6.cts c hc).lt⟩).fr f7 fun b hb h1 h2 => ?_, ⟨B7.own, B7.row, fun b hb => ⟨(B7.pb b hb).1, (B7.pb b hb).2, B7.row.lt hb⟩, B7.okx, B7.own.lt⟩, fun b h1 h2 => ?_, fun b hb => ?_⟩ w6 (by unfold expireS; split <;> (try show st.used ≤ _) <;> omega)
      · rcases h1 with h1 | h1
        · rcases h2.1 with h2 | h2
          · exact dj b h2 h1
          · have := (lt b (.inr h1)).2; omega
        · omega
      · rcases h2.1 with h2 | h2
        · rcases h1.1 with h1 | h1
          · exact dj b h1 h2
          · have := (lt b (.inr h2)).2; omega
        · omega
      · rcases hb with hb | hb
        · refine ⟨?_, by omega⟩
          rcases hb.1 with h | h
          · exact (lt b (.inl h)).1
          · exact hD5 b h
        · refine ⟨?_, hb.2⟩
          rcases hb.1 with h | h
          · exact (lt b (.inr h)).1
          · exact hD5 b (by omega)
    · exact cont h5 st (Fr.refl _ _) T5 wf (by omega)
  · unfold law22_FlowtablePlays_b3
    exact awake_c fun h' f => ⟨_, rfl, hk h' (f14.trans f)⟩
end Go.Proofs.Ytbmifkjdjekenaa
