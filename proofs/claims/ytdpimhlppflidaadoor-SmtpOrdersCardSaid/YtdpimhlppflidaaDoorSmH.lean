/-
  The program's session: Feed.
-/
import Derived.Test.YtdpimhlppflidaaDoorSmG
namespace Go.Proofs.YtdpimhlppflidaaDoor
set_option linter.unusedSimpArgs false
set_option linter.unusedVariables false
set_option maxRecDepth 20000
open Go
open Go.IntKind (wrap)
def dI2 (d : Bool) : Int := if d = true then 1 else 2
def dN (d : Bool) : Nat := if d = true then 1 else 2
def kd (k : Nat) (d : Bool) : Nat := if d = true then k + 10 else k + 20
def sideA (p : SesA) (d : Bool) : Addr := if d = true then p.s1 else p.s2
def sideOf (st : PS) (d : Bool) : SD := if d = true then st.c else st.s
def setSide (st : PS) (d : Bool) (sd : SD) : PS := if d = true then { st with c := sd } else { st with s := sd }
section
variable {o : Tag} {k : Nat} {h : Heap} {p : SesA} {st : PS}
theorem SesF.side (S : SesF o k h p st) (d : Bool) : hcell h (p.a.add (dN d)) = some (.pointer (some (sideA p d))) ∧ SideF o (kd k d) h (sideA p d) (sideOf st d) := by
  obtain ⟨ip, ic, tp, tc, os, I, hi, T, ht, C, D⟩ := S.ex
  cases d
  · exact ⟨os.cells.at (j := 2) rfl, D⟩
  · exact ⟨os.cells.at (j := 1) rfl, C⟩
theorem SesF.setSide (S : SesF o k h p st) (d : Bool) {o' : Tag} {h' : Heap} {sd : SD} {R : Nat → Prop} (f : Fr R h h') (hR : ∀ x, x < h.size → R x → kd k d ≤ o x ∧ o x < kd k d + 3) (ho : Old h o o') (D' : SideF o' (kd k d) h' (sideA p d) sd) : SesF o' k h' p (setSide st d sd) := by
  obtain ⟨ip, ic, tp, tc, os, I, hi, T, ht, C, D⟩ := S.ex
  have tg := S.tag
  have hkd : kd k d = k + 10 ∨ kd k d = k + 20 := by unfold kd; split <;> omega
  have os' := os.fr f fun hr => by have := hR _ os.lt hr; omega
  have I' := I.fr f fun x hx hr => by have := hR _ (I.lt hx) hr; have := hi x hx; omega
  have T' := T.fr f fun x hx hr => by have := hR _ (T.lt hx) hr; have := ht x hx; omega
  have hi' : ∀ x, InA ip x → o' x = k + 2 := fun x hx => by rw [ho x (I.lt hx)]; exact hi x hx
  have ht' : ∀ x, InA tp x → o' x = k + 3 := fun x hx => by rw [ho x (T.lt hx)]; exact ht x hx
  have tg' : o' p.a.block = k + 1 := by rw [ho _ os.lt]; exact tg
  cases d
  · exact ⟨⟨ip, ic, tp, tc, os', I', hi', T', ht', C.fr f (fun x hx hr => by have h1 := hR x hx hr; have h2 : kd k false = k + 20 := rfl; omega) ho, D'⟩, tg'⟩
  · exact ⟨⟨ip, ic, tp, tc, os', I', hi', T', ht', D', D.fr f (fun x hx hr => by have h1 := hR x hx hr; have h2 : kd k true = k + 10 := rfl; omega) ho⟩, tg'⟩
theorem kd_rng (d : Bool) : k + 10 ≤ kd k d ∧ kd k d + 3 ≤ k + 30 := by unfold kd; split <;> omega
/-- A direction fails. -/
theorem fail_c [Gh] {ob : Addr} {evs : List Ev} (S : SesF o k h p st) (A : OutF o k h ob evs) (d : Bool) {K : Heap → Prop} (hk : ∀ h', Fr (SR o k) h h' → SesF o k h' p (setSide st d { sideOf st d with f := true }) → OutF o k h' ob evs → K h') : st1 h ((sideA p d).add 2) (.bool true) K := by
  obtain ⟨hc, D⟩ := S.side d
  obtain ⟨l, qp, qc, ow, q, hq, sp⟩ := D.ex
  have tg := D.tag
  have hr := kd_rng (k := k) d
  refine st1_own ow 2 (by simp) rfl fun h3 f3 s3 o3 => ?_
  have hR : ∀ x, x < h.size → x = (sideA p d).block → kd k d ≤ o x ∧ o x < kd k d + 3 := fun x hx h => by subst h; omega
  refine hk h3 (f3.mono fun x hx => by subst hx; unfold SR; omega) (S.setSide d f3 hR (Old.refl _ _) ⟨⟨l, qp, qc, o3, q.fr f3 fun x hx hb => ?_, hq, sp.fr f3 fun x hx hb hk => ?_⟩, tg⟩) (A.fr f3 (fun x hx hb => ?_) (Old.refl _ _))
  · subst hb; have := hq _ hx; omega
  · subst hb; omega
  · subst hb; omega
/-- The first line of a direction is taken. -/
theorem pop_c [Gh] {ob : Addr} {evs : List Ev} (S : SesF o k h p st) (A : OutF o k h ob evs) (d : Bool) {l : Ln} {q : List Ln} (hq : (sideOf st d).q = l :: q) {d10 : Int} (hd : d10 = dI2 d) {K : Option Addr → Addr → Heap → Prop}
    (hk : ∀ t12 h', Fr (SR o k) h h' → SesF o k h' p (setSide st d { sideOf st d with q := q }) → OutF o k h' ob evs → Own h' t12 (lnV l) T_api_Line → K (some (sideA p d)) t12 h') :
    nn (some p.a) fun t67 => idxA d10 3 (ldP h (Addr.add t67 (d10.toNat * 1)) fun t70 => nn t70 fun t72 => ldL h (Addr.add t72 1) fun t74a t74n t74c => idxA (0 : Int) t74n (nn t74a fun t75 => ldS h (Addr.add t75 (((0 : Int)).toNat * 2)) fun t76_0 => ldB h (Addr.add (Addr.add t75 (((0 : Int)).toNat * 2)) 1) fun t76_1 => alV h (.cells #[.string (⟨#[]⟩ : ByteArray), .bool false] T_api_Line) fun t12 h7 => stN h7 t12 [.string t76_0, .bool t76_1] 0 fun h8 => nn t70 fun t79 => ldL h8 (Addr.add t79 1) fun t81a t81n t81c => sliceSl 2 t81a t81n t81c (some (1 : Int)) none none fun t82a t82n t82c => nn t70 fun t83 => st1 h8 (Addr.add t83 1) (.slice t82a t82n t82c) fun h9 => K t70 t12 h9)) := by
  obtain ⟨hc, D⟩ := S.side d
  obtain ⟨lb, qp, qc, ow, Q0, hqt, sp⟩ := D.ex
  have tg := D.tag
  have hr := kd_rng (k := k) d
  rw [hq] at ow Q0
  subst hd
  have hdn : (dI2 d).toNat * 1 = dN d := by cases d <;> rfl
  refine nn_mk (idxA_mk (dN d) (by cases d <;> rfl) (by cases d <;> decide) ?_)
  rw [hdn]
  refine ldP_mk hc (nn_mk (ldL_mk (ow.cells.at (j := 1) rfl) ?_))
  refine Q0.idx lnV_len (by omega) 0 rfl (by simp) fun ad ci => ?_
  have ci : Cells h (ad.add (0 * 2)) [.string (bs l.1), .bool l.2] := ci
  refine ldS_mk (ci.at0 rfl) (ldB_mk (ci.at (j := 1) rfl) ?_)
  refine al_mk (vs := [.string (bs []), .bool false]) fun t12 h7 f7 e7 o7 => ?_
  refine stN_own o7 (ws := [.string (bs l.1), .bool l.2]) (by rfl) (by rfl) fun h8 f8 s8 o8 => nn_mk ?_
  have F8 : Fr (fun _ => False) h h8 := f7.tr f8 fun b hb hi => by omega
  have z8 := F8.size
  have la := ow.lt
  have ow8 := ow.fr0 F8
  refine ldL_mk (ow8.cells.at (j := 1) rfl) ?_
  refine (Que.fr0 F8 Q0).pop lnV_len (by omega) fun q2 c2 hp2 Q2 => nn_mk ?_
  refine st1_own ow8 1 (by simp) rfl fun h9 f9 s9 o9 => ?_
  have F9 : Fr (fun x => x = (sideA p d).block) h h9 := (F8.mono fun _ h => h.elim).trans f9
  have hR : ∀ x, x < h.size → x = (sideA p d).block → kd k d ≤ o x ∧ o x < kd k d + 3 := fun x hx h => by subst h; omega
  refine hk t12 h9 (F9.mono fun x hx => by subst hx; unfold SR; omega) (S.setSide d F9 hR (Old.refl _ _) ⟨⟨lb, q2, c2, o9, Q2.fr f9 fun x hx hb => ?_, fun x hx => hqt x (hp2 x hx), (sp.fr0 F8).fr f9 fun x hx hb hk => ?_⟩, tg⟩) (A.fr F9 (fun x hx hb => ?_) (Old.refl _ _)) (o8.fr f9 (by omega))
  · subst hb; have := hqt _ (hp2 _ hx); omega
  · subst hb; omega
  · subst hb; omega
theorem side_C (st : PS) (sd : SD) : setSide st true sd = { st with c := sd } := rfl
theorem side_S (st : PS) (sd : SD) : setSide st false sd = { st with s := sd } := rfl
/-- What is done behind a line. -/
theorem feed_b4 [Gh] {ob : Addr} {evs : List Ev} (S : SesF o k h p st) (A : OutF o k h ob evs) (d : Bool) (ok : Bool) (hev : evs.length ≤ 2 ^ 27) {dir : Int} {x7 : Option Addr} {d10 : Int} (hd : d10 = dI2 d) {Q : Value → Heap → Prop} {Kn : Unit → Heap → Prop}
    (hk : ∀ o' h', Old h o o' → Fr (SR o k) h h' → SesF o' k h' p (if ok = true then st else setSide st d { sideOf st d with f := true }) → OutF o' k h' ob (if ok = true then evs else evs ++ [err (dI2 d)]) → Kn () h') :
    smtp_Session_Feed_b4 (some p.a) dir x7 ob ob d10 (some (sideA p d)) ok Q Kn h := by
  unfold smtp_Session_Feed_b4
  subst hd
  refine ifN (fun e => ?_) fun e => ?_
  · rw [if_neg (by rw [e]; decide), if_neg (by rw [e]; decide)] at hk
    refine nn_mk (fail_c S A d fun h1 f1 S1 A1 => ?_)
    refine add_c A1 (err (dI2 d)) (by omega) fun o2 h2 ho2 f2 A2 => ⟨rfl, ?_⟩
    have z1 := f1.size
    exact hk o2 h2 (fun x hx => ho2 x (by omega)) (f1.tr f2 fun x hx hr => by unfold SR; omega) (S1.fr f2 (fun x hx hr => by omega) ho2) A2
  · rw [if_pos e, if_pos e] at hk
    exact hk o h (Old.refl _ _) (Fr.refl _ _) S A
/-- A line of a direction that can be read. -/
def readD (st : PS) (d : Bool) : PS × List Ev := if d = true then readC st else readS st
theorem feed_read [Gh] {ob : Addr} {evs : List Ev} (S : SesF o k h p st) (A : OutF o k h ob evs) (d : Bool) (hne : (sideOf st d).q ≠ []) (hw : wt st ≤ 2 ^ 26) (hev : evs.length ≤ 2 ^ 26) {dir : Int} {x7 : Option Addr} {d10 : Int} (hd : d10 = dI2 d) {Q : Value → Heap → Prop} {Kn : Unit → Heap → Prop}
    (hk : ∀ o' h', Old h o o' → Fr (SR o k) h h' → SesF o' k h' p (readD st d).1 → OutF o' k h' ob (evs ++ (readD st d).2) → Kn () h') :
    nn (some p.a) fun t67 => idxA d10 3 (ldP h (Addr.add t67 ((d10).toNat * 1)) fun t70 => nn t70 fun t72 => ldL h (Addr.add t72 1) fun t74a t74n t74c => idxA (0 : Int) t74n (nn t74a fun t75 => ldS h (Addr.add t75 (((0 : Int)).toNat * 2)) fun t76_0 => ldB h (Addr.add (Addr.add t75 (((0 : Int)).toNat * 2)) 1) fun t76_1 => alV h (.cells #[.string (⟨#[]⟩ : ByteArray), .bool false] T_api_Line) fun t12 h7 => stN h7 t12 [.string t76_0, .bool t76_1] 0 fun h8 => nn t70 fun t79 => ldL h8 (Addr.add t79 1) fun t81a t81n t81c => sliceSl 2 t81a t81n t81c (some (1 : Int)) none none fun t82a t82n t82c => nn t70 fun t83 => st1 h8 (Addr.add t83 1) (.slice t82a t82n t82c) fun h9 => ldB h9 (Addr.add t12 1) fun t86 => if (!t86) = true then (if (d10 == 1) = true then (ldS h9 t12 fun t95 => CallT Tryd.prog fn_smtp_Session_client #[.pointer (some p.a), .string t95, .func (.func 25) #[] #[.pointer (some ob)]] h9 fun v h10 => ∃ t97 : Bool, v = .bool t97 ∧ smtp_Session_Feed_b4 (some p.a) dir x7 ob ob d10 t70 t97 Q Kn h10) else (smtp_Session_Feed_b8 (some p.a) dir x7 ob ob d10 t70 t12 (!t86) Q Kn h9)) else (smtp_Session_Feed_b8 (some p.a) dir x7 ob ob d10 t70 t12 (!t86) Q Kn h9))) := by
  cases hq : (sideOf st d).q with
  | nil => exact absurd hq hne
  | cons l q =>
    refine pop_c S A d hq hd (K := fun t70 t12 h9 => ldB h9 (Addr.add t12 1) fun t86 => if (!t86) = true then (if (d10 == 1) = true then (ldS h9 t12 fun t95 => CallT Tryd.prog fn_smtp_Session_client #[.pointer (some p.a), .string t95, .func (.func 25) #[] #[.pointer (some ob)]] h9 fun v h10 => ∃ t97 : Bool, v = .bool t97 ∧ smtp_Session_Feed_b4 (some p.a) dir x7 ob ob d10 t70 t97 Q Kn h10) else (smtp_Session_Feed_b8 (some p.a) dir x7 ob ob d10 t70 t12 (!t86) Q Kn h9)) else (smtp_Session_Feed_b8 (some p.a) dir x7 ob ob d10 t70 t12 (!t86) Q Kn h9)) fun t12 h9 f9 S9 A9 o9 => ?_
    have z9 := f9.size
    have c9 : Cells h9 t12 [.string (bs l.1), .bool l.2] := o9.cells
    have hwl : l.1.length + 1 ≤ 2 ^ 26 ∧ st.items.length ≤ 2 ^ 26 ∧ tw st.tx ≤ 2 ^ 26 := by
      have hh : l.1.length + 1 ≤ lw (sideOf st d).q := by rw [hq, lw_cons]; omega
      unfold wt at hw
      cases d
      · have : lw st.s.q = lw (sideOf st false).q := rfl; omega
      · have : lw st.c.q = lw (sideOf st true).q := rfl; omega
    refine ldB_mk (c9.at (j := 1) rfl) ?_
    cases d with
    | true =>
      have hq : st.c.q = l :: q := hq
      have hst : setSide st true { sideOf st true with q := q } = popC st := by
        unfold popC; rw [hq]; rfl
      rw [hst] at S9
      have hrd : readD st true = doneC (if l.2 = true then (popC st, [], false) else clientL (popC st) l.1) := by
        show readC st = _
        unfold readC; rw [hq]
      rw [hrd] at hk
      subst hd
      refine ifN (fun e => ?_) fun e => ?_
      · rw [if_neg (by rw [e]; decide)] at hk
        rw [if_pos (by rfl)]
        refine ldS_mk (c9.at0 rfl) (client_c S9 A9 l.1 (by omega) hwl.2.1 (by omega) fun o10 h10 ho10 f10 S10 A10 => ⟨_, rfl, ?_⟩)
        have z10 := f10.size
        have hcw := clientL_wt (popC st) l.1
        refine feed_b4 S10 A10 true (clientL (popC st) l.1).2.2 (by rw [List.length_append]; omega) rfl fun o11 h11 ho11 f11 S11 A11 => ?_
        refine hk o11 h11 (fun x hx => by rw [ho11 x (by omega), ho10 x (by omega)]) ((f9.tr f10 fun x hx hr => hr).tr f11 fun x hx hr => by unfold SR at *; rw [ho10 x (by omega)] at hr; exact hr) ?_ ?_
        · unfold doneC
          split
          · rename_i hb; rw [if_pos hb] at S11; exact S11
          · rename_i hb; rw [if_neg hb] at S11; exact S11
        · unfold doneC
          split
          · rename_i hb; rw [if_pos hb] at A11; exact A11
          · rename_i hb; rw [if_neg hb] at A11; rw [← List.append_assoc]; exact A11
      · rw [if_pos e] at hk
        unfold smtp_Session_Feed_b8
        rw [e]
        rw [if_neg (by decide)]
        refine feed_b4 S9 A9 true false (by omega) rfl fun o11 h11 ho11 f11 S11 A11 => ?_
        exact hk o11 h11 (fun x hx => by rw [ho11 x (by omega)]) (f9.tr f11 fun x hx hr => hr) S11 A11
    | false =>
      have hq : st.s.q = l :: q := hq
      have hst : setSide st false { sideOf st false with q := q } = popS st := by
        unfold popS; rw [hq]; rfl
      rw [hst] at S9
      have hrd : readD st false = doneS (if l.2 = true then (popS st, [], false) else serverL (popS st) l.1) := by
        show readS st = _
        unfold readS; rw [hq]
      rw [hrd] at hk
      subst hd
      have b8 : ∀ ok : Bool, ok = !l.2 → smtp_Session_Feed_b8 (some p.a) dir x7 ob ob (dI2 false) (some (sideA p false)) t12 ok Q Kn h9 := fun ok hok => by
        unfold smtp_Session_Feed_b8
        refine ifB (fun e => ?_) fun e => ?_
        · have hl2 : l.2 = false := by rw [e] at hok; cases hh : l.2 with | false => rfl | true => rw [hh] at hok; cases hok
          rw [if_neg (by rw [hl2]; decide)] at hk
          refine ldS_mk (c9.at0 rfl) (server_c S9 A9 l.1 (by omega) hwl.2.2 (by omega) fun o10 h10 ho10 f10 S10 A10 => ⟨_, rfl, ?_⟩)
          have z10 := f10.size
          have hcw := serverL_wt (popS st) l.1
          refine feed_b4 S10 A10 false (serverL (popS st) l.1).2.2 (by rw [List.length_append]; omega) rfl fun o11 h11 ho11 f11 S11 A11 => ?_
          refine hk o11 h11 (fun x hx => by rw [ho11 x (by omega), ho10 x (by omega)]) ((f9.tr f10 fun x hx hr => hr).tr f11 fun x hx hr => by unfold SR at *; rw [ho10 x (by omega)] at hr; exact hr) ?_ ?_
          · unfold doneS
            split
            · rename_i hb; rw [if_pos hb] at S11; exact S11
            · rename_i hb; rw [if_neg hb] at S11; exact S11
          · unfold doneS
            split
            · rename_i hb; rw [if_pos hb] at A11; exact A11
            · rename_i hb; rw [if_neg hb] at A11; rw [← List.append_assoc]; exact A11
        · have hl2 : l.2 = true := by rw [e] at hok; cases hh : l.2 with | true => rfl | false => rw [hh] at hok; cases hok
          rw [if_pos hl2] at hk
          rw [e]
          refine feed_b4 S9 A9 false false (by omega) rfl fun o11 h11 ho11 f11 S11 A11 => ?_
          exact hk o11 h11 (fun x hx => by rw [ho11 x (by omega)]) (f9.tr f11 fun x hx hr => hr) S11 A11
      refine ifN (fun e => ?_) fun e => ?_
      · rw [if_neg (by decide)]
        exact b8 _ rfl
      · exact b8 _ rfl
end
end Go.Proofs.YtdpimhlppflidaaDoor
