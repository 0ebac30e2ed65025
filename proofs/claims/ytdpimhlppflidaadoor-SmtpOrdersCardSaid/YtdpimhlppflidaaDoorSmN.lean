/-
  The laws Pending and Covered.
-/
import Derived.Test.YtdpimhlppflidaaDoorSmM
import Derived.Test.YtdpimhlppflidaaDoorKit3
namespace Go.Proofs.YtdpimhlppflidaaDoor
set_option linter.unusedSimpArgs false
set_option linter.unusedVariables false
set_option maxRecDepth 20000
open Go
open Go.IntKind (wrap)
theorem nt {b : Bool} (h : b = false) : ¬ b = true := by rw [h]; decide
theorem wt0 : wt st0 = 0 := by decide
def tG : Nm := [50, 50, 48, 32, 104, 105, 10, 50, 50, 48, 32, 103, 111, 10]
def tS : Nm := [115, 116, 97, 114, 116, 116, 108, 115, 10]
def lHi : Ln := ([50, 50, 48, 32, 104, 105], false)
def lGo : Ln := ([50, 50, 48, 32, 103, 111], false)
def lSt : Ln := ([115, 116, 97, 114, 116, 116, 108, 115], false)
theorem feed_tG (b : Nm) : feedL 512 [] (tG ++ b) = (lHi :: lGo :: (feedL 512 [] b).1, (feedL 512 [] b).2) := by
  rw [feedL_append]
  rw [show feedL 512 [] tG = ([lHi, lGo], []) by decide +kernel]; rfl
theorem feed_tS (b : Nm) : feedL 512 [] (tS ++ b) = (lSt :: (feedL 512 [] b).1, (feedL 512 [] b).2) := by
  rw [feedL_append]
  rw [show feedL 512 [] tS = ([lSt], []) by decide +kernel]; rfl
def stC1 (R : List Ln) (B : Nm) : PS := ⟨sd0, ⟨lGo :: R, false, B⟩, [], true, false, false, [50, 50, 48], []⟩
def stC2 (R R2 : List Ln) (B B2 : Nm) : PS := ⟨⟨R2, false, B2⟩, ⟨R, false, B⟩, [], true, true, false, [50, 50, 48], []⟩
def evHi : Ev := ⟨2, 2, [50, 50, 48], [104, 105]⟩
def evGo : Ev := ⟨2, 2, [50, 50, 48], [103, 111]⟩
def evSt : Ev := ⟨1, 1, kTLS, []⟩
theorem lw_feed (b : Nm) : lw (feedL 512 [] b).1 ≤ b.length := by have := feedL_lw 512 b []; simp at this; omega
theorem cov1 (b : Nm) (hb : b.length ≤ 1000) : feedP st0 false (tG ++ b) = (stC1 (feedL 512 [] b).1 (feedL 512 [] b).2, [evHi]) := by
  have hp : pushD st0 false (tG ++ b) = ⟨sd0, ⟨lHi :: lGo :: (feedL 512 [] b).1, false, (feedL 512 [] b).2⟩, [], false, false, false, [], []⟩ := by
    unfold pushD
    rw [show (sideOf st0 false).B = [] from rfl, feed_tG]; rfl
  unfold feedP
  rw [hp]
  have hlw := lw_feed b
  generalize (feedL 512 [] b).1 = R at *
  generalize (feedL 512 [] b).2 = B at *
  have h1 : readS ⟨sd0, ⟨lHi :: lGo :: R, false, B⟩, [], false, false, false, [], []⟩ = (stC1 R B, [evHi]) := rfl
  rw [runP_S (nt rfl) rfl, h1]
  dsimp only
  rw [runP_end (nt rfl) (nt rfl)]
  unfold pendD
  rw [if_neg]
  · rfl
  · rintro ⟨h, _⟩
    have : lw (lGo :: R) > 8192 := h
    rw [lw_cons] at this
    have : lGo.1.length = 6 := rfl
    omega
theorem cov2 (R : List Ln) (B a : Nm) : feedP (stC1 R B) true (tS ++ a) = (stC2 R (feedL 512 [] a).1 B (feedL 512 [] a).2, [evSt, evGo]) := by
  have hp : pushD (stC1 R B) true (tS ++ a) = ⟨⟨lSt :: (feedL 512 [] a).1, false, (feedL 512 [] a).2⟩, ⟨lGo :: R, false, B⟩, [], true, false, false, [50, 50, 48], []⟩ := by
    unfold pushD
    rw [show (sideOf (stC1 R B) true).B = [] from rfl, feed_tS]; rfl
  unfold feedP
  rw [hp]
  generalize (feedL 512 [] a).1 = R2 at *
  generalize (feedL 512 [] a).2 = B2 at *
  have h1 : readC ⟨⟨lSt :: R2, false, B2⟩, ⟨lGo :: R, false, B⟩, [], true, false, false, [50, 50, 48], []⟩ = (⟨⟨R2, false, B2⟩, ⟨lGo :: R, false, B⟩, [some kTLS], true, false, false, [50, 50, 48], []⟩, [evSt]) := rfl
  have h2 : readS ⟨⟨R2, false, B2⟩, ⟨lGo :: R, false, B⟩, [some kTLS], true, false, false, [50, 50, 48], []⟩ = (stC2 R R2 B B2, [evGo]) := rfl
  have hc : ¬ canC ⟨⟨R2, false, B2⟩, ⟨lGo :: R, false, B⟩, [some kTLS], true, false, false, [50, 50, 48], []⟩ = true := by
    unfold canC
    rw [show lastOk [some kTLS] = false by decide, Bool.and_false]; decide
  rw [runP_C rfl, h1]
  dsimp only
  rw [runP_S hc rfl, h2]
  dsimp only
  have e1 : ¬ canC (stC2 R R2 B B2) = true := by unfold canC; rw [show (stC2 R R2 B B2).op = true from rfl]; simp
  have e2 : ¬ canS (stC2 R R2 B B2) = true := by unfold canS; rw [show (stC2 R R2 B B2).op = true from rfl]; simp
  rw [runP_end e1 e2]
  unfold pendD
  rw [if_neg]
  · rfl
  · rintro ⟨_, _, h⟩
    have h : true = false := h
    cases h
theorem cov3 (st : PS) (hop : st.op = true) (d : Bool) (s : Nm) : (feedP st d s).2 = [] ∧ (feedP st d s).1.op = true ∧ wt (feedP st d s).1 ≤ wt st + s.length := by
  have hop2 : (pushD st d s).op = true := by unfold pushD setSide; split <;> exact hop
  have hw := pushD_wt st d s
  have e1 : ¬ canC (pushD st d s) = true := by unfold canC; rw [hop2]; simp
  have e2 : ¬ canS (pushD st d s) = true := by unfold canS; rw [hop2]; simp
  unfold feedP
  rw [runP_end e1 e2]
  unfold pendD
  rw [if_neg (by rintro ⟨_, _, h⟩; have h : (pushD st d s).op = false := h; rw [hop2] at h; cases h)]
  exact ⟨rfl, hop2, hw⟩
theorem stC1_wt (b : Nm) (hb : b.length ≤ 1000) : wt (stC1 (feedL 512 [] b).1 (feedL 512 [] b).2) ≤ 2000 := by
  have := feedL_lw 512 b []
  unfold wt stC1
  dsimp only
  rw [lw_cons]
  have : lGo.1.length = 6 := rfl
  simp [sd0, tw, lw] at *; omega
theorem stC2_wt (a b : Nm) (hb : b.length ≤ 1000) (ha : a.length ≤ 1000) : wt (stC2 (feedL 512 [] b).1 (feedL 512 [] a).1 (feedL 512 [] b).2 (feedL 512 [] a).2) ≤ 3000 := by
  have h1 := feedL_lw 512 b []
  have h2 := feedL_lw 512 a []
  unfold wt stC2
  dsimp only
  simp only [List.length_nil, Nat.zero_add, tw, List.map_nil, List.sum_nil] at *
  omega
theorem SmtpCovered_c [Gh] (a b : Nm) {h : Heap} (_ : sOk h a) (_ : sOk h b) {Q : Value → Heap → Prop} (hk : ∀ h', Fr (fun _ => False) h h' → Q (.bool true) h') : CallT Tryd.prog fn_law30_SmtpCovered #[.string (bs a), .string (bs b)] h Q := by
  apply law30_SmtpCovered_s
  unfold law30_SmtpCovered_v
  refine lives_c fun h1 f1 => ⟨_, rfl, ?_⟩
  rw [if_neg (by decide), bs_size, bs_size]
  refine ifD (fun _ => hk h1 f1) fun ea => ifD (fun _ => hk h1 f1) fun eb => ?_
  have M0 : Many h h1 [] [] := Many.start.fr0 f1
  refine M0.new fun p h2 M1 => ⟨_, rfl, ?_⟩
  have eG : (⟨#[50, 50, 48, 32, 104, 105, 10, 50, 50, 48, 32, 103, 111, 10]⟩ : ByteArray) = bs tG := rfl
  have eS : (⟨#[115, 116, 97, 114, 116, 116, 108, 115, 10]⟩ : ByteArray) = bs tS := rfl
  have lG : tG.length = 14 := rfl
  have lS : tS.length = 9 := rfl
  rw [eG, eS, bs_append, bs_append, bs_size, bs_size]
  refine ⟨Int.le_trans (b := 2000) (by omega) (by decide), ?_⟩
  have c1 := cov1 b (by omega)
  have k1 := cov2 (feedL 512 [] b).1 (feedL 512 [] b).2 a
  have w1 := stC1_wt b (by omega)
  have w2 := stC2_wt a b (by omega) (by omega)
  generalize feedL 512 [] b = fb at *
  generalize feedL 512 [] a = fa at *
  refine M1.feed 0 (by simp) false (tG ++ b) (by show wt st0 + _ ≤ _; rw [wt0, List.length_append]; omega) 1 (by omega) fun q1 cc1 h3 M2 => ⟨_, _, _, rfl, ?_⟩
  have M2 : Many h h3 [(p, (feedP st0 false (tG ++ b)).1)] [⟨1, q1, cc1, (feedP st0 false (tG ++ b)).2⟩] := M2
  have g1 : (feedP (([] ++ [(p, st0)] : List (SesA × PS))[0]).2 false (tG ++ b)).2.length = 1 := by show (feedP st0 false (tG ++ b)).2.length = 1; rw [c1]; rfl
  rw [g1]
  rw [c1] at M2
  refine ⟨Int.le_trans (b := 2000) (by omega) (by decide), ?_⟩
  refine M2.feed 0 (by simp) true (tS ++ a) (by show wt (stC1 _ _) + _ ≤ _; rw [List.length_append]; omega) 2 (by omega) fun q2 cc2 h4 M3 => ⟨_, _, _, rfl, ?_⟩
  have M3 : Many h h4 [(p, (feedP (stC1 fb.1 fb.2) true (tS ++ a)).1)] [⟨2, q2, cc2, (feedP (stC1 fb.1 fb.2) true (tS ++ a)).2⟩, ⟨1, q1, cc1, [evHi]⟩] := M3
  have g2 : (feedP ([(p, (stC1 fb.1 fb.2, [evHi]).1)][0] : SesA × PS).2 true (tS ++ a)).2.length = 2 := by show (feedP (stC1 fb.1 fb.2) true (tS ++ a)).2.length = 2; rw [k1]; rfl
  rw [g2]
  rw [k1] at M3
  have M3 : Many h h4 [(p, stC2 fb.1 fa.1 fb.2 fa.2)] [⟨2, q2, cc2, [evSt, evGo]⟩, ⟨1, q1, cc1, [evHi]⟩] := M3
  generalize hS2 : stC2 fb.1 fa.1 fb.2 fa.2 = S2 at *
  have op2 : S2.op = true := by rw [← hS2]; rfl
  obtain ⟨z1, z2, z3⟩ := cov3 S2 op2 false b
  refine M3.feed 0 (by simp) false b (by show wt S2 + _ ≤ _; omega) 3 (by omega) fun q3 cc3 h5 M4 => ⟨_, _, _, rfl, ?_⟩
  have M4 : Many h h5 [(p, (feedP S2 false b).1)] [⟨3, q3, cc3, (feedP S2 false b).2⟩, ⟨2, q2, cc2, [evSt, evGo]⟩, ⟨1, q1, cc1, [evHi]⟩] := M4
  have g3 : (feedP ([(p, S2)][0] : SesA × PS).2 false b).2.length = 0 := by show (feedP S2 false b).2.length = 0; rw [z1]; rfl
  rw [g3]
  generalize hS3 : (feedP S2 false b).1 = S3 at *
  obtain ⟨y1, y2, y3⟩ := cov3 S3 z2 true a
  refine M4.feed 0 (by simp) true a (by show wt S3 + _ ≤ _; omega) 4 (by omega) fun q4 cc4 h6 M5 => ⟨_, _, _, rfl, ?_⟩
  have M5 : Many h h6 [(p, (feedP S3 true a).1)] [⟨4, q4, cc4, (feedP S3 true a).2⟩, ⟨3, q3, cc3, (feedP S2 false b).2⟩, ⟨2, q2, cc2, [evSt, evGo]⟩, ⟨1, q1, cc1, [evHi]⟩] := M5
  have g4 : (feedP ([(p, S3)][0] : SesA × PS).2 true a).2.length = 0 := by show (feedP S3 true a).2.length = 0; rw [y1]; rfl
  rw [g4]
  rw [if_pos (by decide), if_pos (by decide)]
  have D : Rd 4 evV h6 q2 [evSt, evGo] := M5.rd (r := ⟨2, q2, cc2, [evSt, evGo]⟩) (by simp)
  refine D.get 0 rfl (by decide) fun ad ci => ?_
  have ci := evC ci
  refine ldS_mk (ci.at (j := 2) rfl) ?_
  rw [if_pos (by decide +kernel)]
  refine D.get 1 rfl (by decide) fun ad ci => ?_
  have ci := evC ci
  refine ldS_mk (ci.at (j := 2) rfl) ?_
  rw [if_pos (by decide +kernel)]
  refine M5.op 0 (by simp) ⟨_, rfl, ?_⟩
  refine ifB (fun _ => ?_) fun e => ?_
  · rw [if_pos (by decide)]
    exact hk h6 M5.fr
  · have e : (feedP S3 true a).1.op = false := e
    rw [y2] at e; cases e
/-! ### Pending -/
def stW (m : Nat) (f : Bool) : PS := ⟨⟨List.replicate m ([], false), f, []⟩, sd0, [some kDATA], false, false, false, [], []⟩
def tD : Nm := [68, 65, 84, 65, 10]
def evD : Ev := ⟨1, 1, kDATA, []⟩
theorem lw_rep : ∀ m : Nat, lw (List.replicate m (([], false) : Ln)) = m
  | 0 => rfl
  | m + 1 => by rw [List.replicate_succ, lw_cons, lw_rep m]; simp; omega
theorem feed_rep : ∀ n : Nat, feedL 512 [] (List.replicate n 10) = (List.replicate n ([], false), [])
  | 0 => rfl
  | n + 1 => by
    have := feedL_some 512 (List.replicate n 10) [] [] (by simp)
    rw [feed_rep n] at this
    rw [List.replicate_succ, List.replicate_succ]
    exact this
theorem pend1 : feedP st0 true tD = (stW 0 false, [evD]) := by
  rw [feedP_fuel 3 _ _ _ (by decide +kernel)]
  kernel_rfl
theorem pend2 (m n : Nat) (f : Bool) : feedP (stW m f) true (List.replicate n 10) = if m + n > 8192 ∧ f = false then (stW (m + n) true, [err 1]) else (stW (m + n) f, []) := by
  have hp : pushD (stW m f) true (List.replicate n 10) = stW (m + n) f := by
    unfold pushD
    rw [show (sideOf (stW m f) true).B = [] from rfl, feed_rep]
    show (⟨⟨List.replicate m ([], false) ++ List.replicate n ([], false), f, []⟩, sd0, [some kDATA], false, false, false, [], []⟩ : PS) = _
    rw [List.replicate_append_replicate]; rfl
  unfold feedP
  rw [hp]
  have e1 : ¬ canC (stW (m + n) f) = true := by unfold canC; rw [show lastOk (stW (m + n) f).items = false from rfl, Bool.and_false]; decide
  have e2 : ¬ canS (stW (m + n) f) = true := by intro h; exact absurd (show false = true from h) (by decide)
  rw [runP_end e1 e2]
  unfold pendD
  have hl : lw (sideOf (stW (m + n) f) true).q = m + n := lw_rep _
  dsimp only
  rw [hl]
  by_cases h : m + n > 8192 ∧ f = false
  · rw [if_pos ⟨h.1, h.2, rfl⟩, if_pos h]; rfl
  · rw [if_neg (fun hh => h ⟨hh.1, hh.2.1⟩), if_neg h]
theorem stW_wt (m : Nat) (f : Bool) : wt (stW m f) = m + 1 := by
  unfold wt stW; dsimp only; rw [lw_rep]; rfl
end Go.Proofs.YtdpimhlppflidaaDoor
