/-
  The example; both tables side by side; the law FlowtablePlays.
-/
import Derived.Test.YtbmifkjdjekenaaFtJ
namespace Go.Proofs.Ytbmifkjdjekenaa
set_option linter.unusedSimpArgs false
set_option linter.unusedVariables false
set_option maxRecDepth 20000
open Go
open Go.IntKind (wrap)
attribute [local irreducible] Addr.add stN st1 idxA idxS alV sliceStr LoopV
instance (L : List FEn) (x : FEn) : Decidable (IsLeast L x) := by unfold IsLeast; infer_instance
def flowF (n : Int) : Fl := ⟨6, ⟨false, 0, 1⟩, ⟨false, 0, 2⟩, n, 80⟩
theorem flow_c [Gh] (n : Int) {h : Heap} {Q : Value → Heap → Prop} (hk : ∀ h', Fr (fun _ => False) h h' → Q (.agg (flowF n).vals.toArray) h') : CallT Try.prog fn_law22_flow #[.int .i64 n] h Q := by
  apply law22_flow_s
  unfold law22_flow_v
  refine al_H (Hs.pure h) fun t2 h1 H l1 => ?_
  refine stN_H H 0 rfl (by rfl) (by rfl) fun h2 H => ?_
  have C0 := (H.get 0 rfl).cells; repeat (first | (first | refine ldI_mk (by first | exact C0.at rfl | exact C0.at0 rfl) ?_ | refine ldB_mk (by first | exact C0.at rfl | exact C0.at0 rfl) ?_ | refine ldL_mk (by first | exact C0.at rfl | exact C0.at0 rfl) ?_ | refine ldP_mk (by first | exact C0.at rfl | exact C0.at0 rfl) ?_ | refine ldS_mk (by first | exact C0.at rfl | exact C0.at0 rfl) ?_ | refine ldM_mk (by first | exact C0.at rfl | exact C0.at0 rfl) ?_) | refine nn_mk ?_ | refine And.intro (by (repeat (first | refine ldI_mk (by first | exact C0.at rfl | exact C0.at0 rfl) ?_ | refine ldB_mk (by first | exact C0.at rfl | exact C0.at0 rfl) ?_ | refine ldL_mk (by first | exact C0.at rfl | exact C0.at0 rfl) ?_ | refine ldP_mk (by first | exact C0.at rfl | exact C0.at0 rfl) ?_ | refine ldS_mk (by first | exact C0.at rfl | exact C0.at0 rfl) ?_ | refine ldM_mk (by first | exact C0.at rfl | exact C0.at0 rfl) ?_)); exact rfl) ?_ | refine ifNS ?_ | refine And.intro (by decide) ?_)
  exact hk h2 H.fr0
theorem open_x [Gh] {ok : Nat → Prop} {h : Heap} {t : Addr} {r1 r2 : Nat} {st s : St} {S : List PE} (R : TabF ok h t r1 r2 st S) (w : Wf st) (hok : ∀ b, h.size ≤ b → ok b) {at_ : Int} {f : Fl} {v a b c : Int} (o : OpenR st at_ f v a b c s) {Q : Value → Heap → Prop}
    (hk : ∀ h' S', Fr ok h h' → TabF ok h' t r1 r2 s S' → Q (.tuple #[.int .i64 a, .int .i64 b, .int .i64 c]) h') :
    CallT Try.prog fn_flowtable_Table_Open #[.pointer (some t), .int .i64 at_, .agg #[.int .i64 f.proto, .bool f.src.v6, .int .u64 f.src.hi, .int .u64 f.src.lo, .bool f.dst.v6, .int .u64 f.dst.hi, .int .u64 f.dst.lo, .int .i64 f.sport, .int .i64 f.dport], .int .i64 v] h Q :=
  open_c R w hok at_ f v fun a' b' c' s' h' S' o' f' R' => by
    obtain ⟨rfl, rfl, rfl, rfl⟩ := o.uniq w o'
    exact hk h' S' f' R'
theorem awake_c [Gh] {h : Heap} {Q : Value → Heap → Prop} (hk : ∀ h', Fr (fun _ => False) h h' → Q (.bool true) h') : CallT Try.prog fn_law22_awake #[] h Q := by
  apply law22_awake_s
  unfold law22_awake_v
  refine new_c 2 100 fun t r1 r2 h1 f1 R1 => ⟨_, rfl, ifNS ?_⟩
  have w1 := newS_wf 2 100
  have z1 := f1.size
  have fin : ∀ {a b : Heap}, Fr (fun _ => False) h a → Fr (fun b => h.size ≤ b) a b → Fr (fun _ => False) h b := fun f g => f.tr g fun x hx hi => by omega
  refine flow_c 1 fun h2 f2 => ⟨_, _, _, _, _, _, _, _, _, rfl, ?_⟩
  have z2 := f2.size
  have o1 : OpenR (newS 2 100) 0 (flowF 1) 1 _ _ _ _ := .add (by decide) (by decide) (by decide) (by decide)
  refine open_x (R1.fr0 f2) w1 (fun b hb => by omega) o1 fun h3 S3 f3 R3 => ⟨_, _, _, rfl, ?_⟩
  have w3 := o1.wf w1 (by decide)
  have z3 := f3.size
  have F3 := fin (f1.trans f2) f3
  refine flow_c 2 fun h4 f4 => ⟨_, _, _, _, _, _, _, _, _, rfl, ?_⟩
  have z4 := f4.size
  have o2 : OpenR _ 1 (flowF 2) 0 _ _ _ _ := .add (st := addE (newS 2 100) 0 1 (flowF 1) (newS 2 100).L) (by decide) (by decide) (by decide) (by decide)
  refine open_x (R3.fr0 f4) w3 (fun b hb => by omega) o2 fun h5 S5 f5 R5 => ⟨_, _, _, rfl, ?_⟩
  have w5 := o2.wf w3 (by decide)
  have z5 := f5.size
  have F5 := fin (F3.trans f4) f5
  rw [if_neg (by decide), if_neg (by decide)]
  generalize hs5 : addE (addE (newS 2 100) 0 1 (flowF 1) (newS 2 100).L) 1 0 (flowF 2) (addE (newS 2 100) 0 1 (flowF 1) (newS 2 100).L).L = s5 at *
  refine touch_c R5 2 _ fun h6 S6 f6 R6 => ⟨_, rfl, ?_⟩
  have w6 := touch_wf w5 2 ((newS 2 100).used + 1)
  subst hs5
  rw [if_neg (by decide)]
  have z6 := f6.size
  have F6 := fin F5 f6
  refine flow_c 3 fun h7 f7 => ⟨_, _, _, _, _, _, _, _, _, rfl, ?_⟩
  have z7 := f7.size
  generalize hs6 : (touchS (addE (addE (newS 2 100) 0 1 (flowF 1) (newS 2 100).L) 1 0 (flowF 2) (addE (newS 2 100) 0 1 (flowF 1) (newS 2 100).L).L) 2 ((newS 2 100).used + 1)).2 = s6 at *
  have es6 : s6 = ⟨2, 100, 2, 2, [⟨1, 1, 2, flowF 1⟩, ⟨2, 0, 1, flowF 2⟩]⟩ := by rw [← hs6]; rfl
  clear hs6
  subst es6
  have o3 : OpenR ⟨2, 100, 2, 2, [⟨1, 1, 2, flowF 1⟩, ⟨2, 0, 1, flowF 2⟩]⟩ 3 (flowF 3) 0 _ _ _ _ := .evict ⟨2, 0, 1, flowF 2⟩ (by decide) (by decide) (by decide) (by decide) (by decide) (by decide)
  refine open_x (R6.fr0 f7) w6 (fun b hb => by omega) o3 fun h8 S8 f8 R8 => ⟨_, _, _, rfl, ?_⟩
  have w8 := o3.wf w6 (by decide)
  have z8 := f8.size
  have F8 := fin (F6.trans f7) f8
  have es8 : (addE ⟨2, 100, 2, 2, [⟨1, 1, 2, flowF 1⟩, ⟨2, 0, 1, flowF 2⟩]⟩ 3 0 (flowF 3) (without [⟨1, 1, 2, flowF 1⟩, ⟨2, 0, 1, flowF 2⟩] 2)) = ⟨2, 100, 3, 3, [⟨1, 1, 2, flowF 1⟩, ⟨3, 0, 3, flowF 3⟩]⟩ := by rfl
  rw [es8] at R8 w8
  refine flow_c 4 fun h9 f9 => ⟨_, _, _, _, _, _, _, _, _, rfl, ?_⟩
  have z9 := f9.size
  have o4 : OpenR ⟨2, 100, 3, 3, [⟨1, 1, 2, flowF 1⟩, ⟨3, 0, 3, flowF 3⟩]⟩ 4 (flowF 4) 0 _ _ _ _ := .evict ⟨3, 0, 3, flowF 3⟩ (by decide) (by decide) (by decide) (by decide) (by decide) (by decide)
  refine open_x (R8.fr0 f9) w8 (fun b hb => by omega) o4 fun h10 S10 f10 R10 => ⟨_, _, _, rfl, ?_⟩
  have w10 := o4.wf w8 (by decide)
  have F10 := fin (F8.trans f9) f10
  iterate 6 rw [if_pos (by decide)]
  refine ids_c R10 w10 fun p cap h11 f11 Rp hp => ⟨_, _, _, rfl, ?_⟩
  refine al_mk (vs := [.int .i64 1, .int .i64 4]) fun t82 h12 f12 e12 o12 => ?_
  have rw2 : Row 1 intV h12 (some t82) 2 [1, 4] := Row.of_own (L := [1, 4]) intV_len o12
  refine same_c (Rp.fr0 f12) rw2 (by decide) ⟨_, rfl, ?_⟩
  exact hk h12 ((F10.trans f11).trans f12)
/-- Both tables, in places apart. -/
def TwoF (D : Nat → Prop) (h : Heap) (t x : Addr) (s1 s2 : St) : Prop :=
  ∃ (okP okR : Nat → Prop) (r1 r2 : Nat) (S : List PE) (p : Option Addr) (cap : Nat), TabF okP h t r1 r2 s1 S ∧ RefF okR h x s2 p cap ∧ (∀ b, okP b → okR b → False) ∧ ∀ b, okP b ∨ okR b → D b ∧ b < h.size
theorem TwoF.fr0 {D : Nat → Prop} {h h' : Heap} {t x : Addr} {s1 s2 : St} (f : Fr (fun _ => False) h h') (T : TwoF D h t x s1 s2) : TwoF D h' t x s1 s2 := by
  obtain ⟨okP, okR, r1, r2, S, p, cap, A, B, dj, lt⟩ := T
  exact ⟨okP, okR, r1, r2, S, p, cap, A.fr0 f, B.fr0 f, dj, fun b hb => ⟨(lt b hb).1, by have := (lt b hb).2; have := f.size; omega⟩⟩
theorem TwoF.to {D D' : Nat → Prop} {h : Heap} {t x : Addr} {s1 s2 : St} (T : TwoF D h t x s1 s2) (hD : ∀ b, b < h.size → D b → D' b) : TwoF D' h t x s1 s2 := by
  obtain ⟨okP, okR, r1, r2, S, p, cap, A, B, dj, lt⟩ := T
  exact ⟨okP, okR, r1, r2, S, p, cap, A, B, dj, fun b hb => ⟨hD b (lt b hb).2 (lt b hb).1, (lt b hb).2⟩⟩
/-- A call of the program's table. -/
theorem TwoF.prog {D : Nat → Prop} {h : Heap} {t x : Addr} {s1 s2 : St} (T : TwoF D h t x s1 s2) (hD : ∀ b, h.size ≤ b → D b) : ∃ (ok : Nat → Prop) (r1 r2 : Nat) (S : List PE), TabF ok h t r1 r2 s1 S ∧ (∀ b, h.size ≤ b → ok b) ∧
    (∀ h' s1' S', Fr ok h h' → TabF ok h' t r1 r2 s1' S' → TwoF D h' t x s1' s2 ∧ Fr D h h') ∧ (∀ b, ok b → D b) := by
  obtain ⟨okP, okR, r1, r2, S, p, cap, A, B, dj, lt⟩ := T
  refine ⟨fun b => okP b ∨ h.size ≤ b, r1, r2, S, A.to (.inl A.okt) (.inl A.okr.1) (.inl A.okr.2) (fun c hc => .inl (A.cp c hc).2.2.2), fun b hb => .inr hb, fun h' s1' S' f A' => ⟨⟨fun b => (okP b ∨ h.size ≤ b) ∧ b < h'.size, okR, r1, r2, S', p, cap, ?_, ?_, fun b hb hr => ?_, fun b hb => ?_⟩, f.mono fun b hb => ?_⟩, fun b hb => ?_⟩
  · exact A'.to ⟨A'.okt, A'.own.lt⟩ ⟨A'.okr.1, A'.m1.lt⟩ ⟨A'.okr.2, A'.m2.lt⟩ fun c hc => ⟨(A'.cp c hc).2.2.2, (A'.cts c hc).lt⟩
  · refine B.fr f fun b hb h1 h2 => ?_
    rcases h1 with h1 | h1
    · exact dj b h1 h2
    · omega
  · rcases hb.1 with h | h
    · exact dj b h hr
    · have := (lt b (.inr hr)).2; omega
  · have := f.size
    rcases hb with h | h
    · refine ⟨?_, h.2⟩
      rcases h.1 with h | h
      · exact (lt b (.inl h)).1
      · exact hD b h
    · exact ⟨(lt b (.inr h)).1, by have := (lt b (.inr h)).2; omega⟩
  · rcases hb with h | h
    · exact (lt b (.inl h)).1
    · exact hD b h
  · rcases hb with h | h
    · exact (lt b (.inl h)).1
    · exact hD b h
/-- A call of the reference's table. -/
theorem TwoF.ref {D : Nat → Prop} {h : Heap} {t x : Addr} {s1 s2 : St} (T : TwoF D h t x s1 s2) (hD : ∀ b, h.size ≤ b → D b) : ∃ (ok : Nat → Prop) (p : Option Addr) (cap : Nat), RefF ok h x s2 p cap ∧ (∀ b, h.size ≤ b → ok b) ∧
    (∀ h' s2' p' cap', Fr ok h h' → RefF ok h' x s2' p' cap' → TwoF D h' t x s1 s2' ∧ Fr D h h') ∧ (∀ b, ok b → D b) := by
  obtain ⟨okP, okR, r1, r2, S, p, cap, A, B, dj, lt⟩ := T
  refine ⟨fun b => okR b ∨ h.size ≤ b, p, cap, ⟨B.own, B.row, fun b hb => ⟨(B.pb b hb).1, .inl (B.pb b hb).2⟩, .inl B.okx⟩, fun b hb => .inr hb, fun h' s2' p' cap' f B' => ⟨⟨okP, fun b => (okR b ∨ h.size ≤ b) ∧ b < h'.size, r1, r2, S, p', cap', ?_, ?_, fun b hb hr => ?_, fun b hb => ?_⟩, f.mono fun b hb => ?_⟩, fun b hb => ?_⟩
  · refine A.fr f fun b hb h1 h2 => ?_
    rcases h1 with h1 | h1
    · exact dj b h2 h1
    · omega
  · exact ⟨B'.own, B'.row, fun b hb => ⟨(B'.pb b hb).1, (B'.pb b hb).2, B'.row.lt hb⟩, B'.okx, B'.own.lt⟩
  · rcases hr.1 with h | h
    · exact dj b hb h
    · have := (lt b (.inl hb)).2; omega
  · have := f.size
    rcases hb with h | h
    · exact ⟨(lt b (.inl h)).1, by have := (lt b (.inl h)).2; omega⟩
    · refine ⟨?_, h.2⟩
      rcases h.1 with h | h
      · exact (lt b (.inr h)).1
      · exact hD b h
  · rcases hb with h | h
    · exact (lt b (.inr h)).1
    · exact hD b h
  · rcases hb with h | h
    · exact (lt b (.inr h)).1
    · exact hD b h
end Go.Proofs.Ytbmifkjdjekenaa
