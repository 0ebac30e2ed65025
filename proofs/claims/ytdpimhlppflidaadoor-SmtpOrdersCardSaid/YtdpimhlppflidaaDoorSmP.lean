/-
  The law Mails.
-/
import Derived.Test.YtdpimhlppflidaaDoorSmO
namespace Go.Proofs.YtdpimhlppflidaaDoor
set_option linter.unusedSimpArgs false
set_option linter.unusedVariables false
set_option maxRecDepth 20000
open Go
open Go.IntKind (wrap)
def dotL (l : Nm) : Nm := (if l.take 1 = [46] then [46] else []) ++ l
theorem mlL_dot (l : Nm) : mlL l = dotL l ++ [13, 10] := by unfold mlL dotL; rw [List.append_assoc]
theorem dotL_len (l : Nm) : (dotL l).length ≤ l.length + 1 := by unfold dotL; split <;> simp <;> omega
theorem dotL_no {l : Nm} (h : ∀ x ∈ l, x ≠ 10) : ∀ x ∈ dotL l, x ≠ 10 := fun x hx => by
  unfold dotL at hx
  rcases List.mem_append.1 hx with hx | hx
  · split at hx
    · rw [List.mem_singleton.1 hx]; decide
    · cases hx
  · exact h x hx
theorem dotL_ne (l : Nm) : dotL l ≠ [46] := fun h => by
  unfold dotL at h
  split at h
  · rename_i hh
    have : l = [] := by simpa using h
    rw [this] at hh; cases hh
  · rename_i hh
    have : l = [46] := h
    rw [this] at hh; exact hh rfl
theorem undot_dot (l : Nm) : undotL (dotL l) = l := by
  unfold undotL dotL
  by_cases h : l.take 1 = [46]
  · rw [if_pos h, if_pos (by simp)]; simp
  · rw [if_neg h, List.nil_append, if_neg h]
theorem feed_crlf (l r : Nm) (h : ∀ x ∈ l, x ≠ 10) (hl : l.length ≤ 512) : feedL 512 [] (l ++ [13, 10] ++ r) = ((l, false) :: (feedL 512 [] r).1, (feedL 512 [] r).2) := by
  have h1 := feedL_some 512 r (l ++ [13]) [] fun x hx => by
    rcases List.mem_append.1 hx with hx | hx
    · exact h x hx
    · rw [List.mem_singleton.1 hx]; decide
  rw [show l ++ [13] ++ 10 :: r = l ++ [13, 10] ++ r by simp] at h1
  rw [h1]
  have h2 : bareL ([] ++ (l ++ [13])) = l := by unfold bareL; simp
  rw [h2]
  unfold lineL
  rw [List.take_of_length_le hl, decide_eq_false (by omega)]
def mlOk (x : Nm) : Prop := x.length ≤ 500 ∧ ∀ b ∈ x, b ≠ 10
theorem feed_mls (r : Nm) : ∀ m : List Nm, (∀ x ∈ m, mlOk x) → feedL 512 [] (m.flatMap mlL ++ r) = (m.map (fun l => (dotL l, false)) ++ (feedL 512 [] r).1, (feedL 512 [] r).2)
  | [], _ => rfl
  | x :: m, hm => by
    have ih := feed_mls r m fun y hy => hm y (List.mem_cons_of_mem _ hy)
    obtain ⟨h1, h2⟩ := hm x List.mem_cons_self
    have h3 := dotL_len x
    rw [List.flatMap_cons, mlL_dot, List.append_assoc, feed_crlf _ _ (dotL_no h2) (by omega), ih]; rfl
def tDD : Nm := [68, 65, 84, 65, 13, 10]
def tQ : Nm := [81, 85, 73, 84, 13, 10]
def tH : Nm := [50, 50, 48, 32, 104, 105, 13, 10, 51, 53, 52, 32, 103, 111, 13, 10]
def kQUIT : Nm := [81, 85, 73, 84]
def stM : PS := ⟨sd0, ⟨[([51, 53, 52, 32, 103, 111], false)], false, []⟩, [], true, false, false, [50, 50, 48], []⟩
def stT (q : List Ln) : PS := ⟨⟨q, false, []⟩, sd0, [], true, false, true, k354, []⟩
def stE : PS := ⟨sd0, sd0, [none, some kQUIT], true, false, false, k354, []⟩
def gL (l : Nm) : Ev := ⟨3, 1, [], l⟩
theorem feed_mail (m : List Nm) (hm : ∀ x ∈ m, mlOk x) : feedL 512 [] (tDD ++ mailL m ++ tQ) = ((kDATA, false) :: (m.map (fun l => (dotL l, false)) ++ [([46], false), (kQUIT, false)]), []) := by
  have e : tDD ++ mailL m ++ tQ = tDD ++ (m.flatMap mlL ++ ([46, 13, 10] ++ tQ)) := by unfold mailL; simp
  rw [e, feedL_append, show feedL 512 [] tDD = ([(kDATA, false)], []) by decide +kernel]
  dsimp only
  rw [feed_mls _ m hm, show feedL 512 [] ([46, 13, 10] ++ tQ) = ([([46], false), (kQUIT, false)], []) by decide +kernel]
  rfl
theorem mail1 : feedP st0 false tH = (stM, [evHi]) := by
  rw [feedP_fuel 5 _ _ _ (by decide +kernel)]
  kernel_rfl
theorem runText (tail : List Ln) : ∀ m : List Nm, runP (stT (m.map (fun l => (dotL l, false)) ++ tail)) = ((runP (stT tail)).1, m.map gL ++ (runP (stT tail)).2)
  | [] => rfl
  | l :: m => by
    have ih := runText tail m
    have h1 : readC (stT ((dotL l, false) :: (m.map (fun l => (dotL l, false)) ++ tail))) = (stT (m.map (fun l => (dotL l, false)) ++ tail), [gL l]) := by
      have : clientL (popC (stT ((dotL l, false) :: (m.map (fun l => (dotL l, false)) ++ tail)))) (dotL l) = (stT (m.map (fun l => (dotL l, false)) ++ tail), [gL l], true) := by
        have him : (popC (stT ((dotL l, false) :: (m.map (fun l => (dotL l, false)) ++ tail)))).im = true := rfl
        unfold clientL
        rw [if_pos him, if_neg (dotL_ne l), undot_dot]; rfl
      have e : readC (stT ((dotL l, false) :: (m.map (fun l => (dotL l, false)) ++ tail))) = doneC (clientL (popC (stT ((dotL l, false) :: (m.map (fun l => (dotL l, false)) ++ tail)))) (dotL l)) := rfl
      rw [e, this]; rfl
    rw [List.map_cons, List.cons_append, runP_C rfl, h1, ih]
    rfl
def mailE (m : List Nm) : List Ev := ⟨1, 1, kDATA, []⟩ :: ⟨2, 2, k354, [103, 111]⟩ :: (m.map gL ++ [⟨4, 1, [], []⟩, ⟨1, 1, kQUIT, []⟩])
theorem mail2 (m : List Nm) (hm : ∀ x ∈ m, mlOk x) : feedP stM true (tDD ++ mailL m ++ tQ) = (stE, mailE m) := by
  have hp : pushD stM true (tDD ++ mailL m ++ tQ) = ⟨⟨(kDATA, false) :: (m.map (fun l => (dotL l, false)) ++ [([46], false), (kQUIT, false)]), false, []⟩, ⟨[([51, 53, 52, 32, 103, 111], false)], false, []⟩, [], true, false, false, [50, 50, 48], []⟩ := by
    unfold pushD
    rw [show (sideOf stM true).B = [] from rfl, feed_mail m hm]; rfl
  unfold feedP
  rw [hp]
  generalize hq : m.map (fun l => (dotL l, false)) ++ [([46], false), (kQUIT, false)] = q
  have h1 : readC ⟨⟨(kDATA, false) :: q, false, []⟩, ⟨[([51, 53, 52, 32, 103, 111], false)], false, []⟩, [], true, false, false, [50, 50, 48], []⟩ = (⟨⟨q, false, []⟩, ⟨[([51, 53, 52, 32, 103, 111], false)], false, []⟩, [some kDATA], true, false, false, [50, 50, 48], []⟩, [⟨1, 1, kDATA, []⟩]) := rfl
  have h2 : readS ⟨⟨q, false, []⟩, ⟨[([51, 53, 52, 32, 103, 111], false)], false, []⟩, [some kDATA], true, false, false, [50, 50, 48], []⟩ = (stT q, [⟨2, 2, k354, [103, 111]⟩]) := rfl
  have hc : ¬ canC ⟨⟨q, false, []⟩, ⟨[([51, 53, 52, 32, 103, 111], false)], false, []⟩, [some kDATA], true, false, false, [50, 50, 48], []⟩ = true := by
    unfold canC
    rw [show lastOk [some kDATA] = false by decide, Bool.and_false]; decide
  rw [runP_C rfl, h1]
  dsimp only
  rw [runP_S hc rfl, h2]
  dsimp only
  rw [← hq, runText, show runP (stT [([46], false), (kQUIT, false)]) = (stE, [⟨4, 1, [], []⟩, ⟨1, 1, kQUIT, []⟩]) by rw [runP_fuel 3 _ (by decide +kernel)]; kernel_rfl]
  rfl
theorem mailOf (m : List Nm) : ofL (mailE m) 1 = ⟨1, 1, kDATA, []⟩ :: (m.map gL ++ [⟨4, 1, [], []⟩, ⟨1, 1, kQUIT, []⟩]) := by
  unfold mailE ofL
  rw [List.filter_cons, if_pos (by decide), List.filter_cons, if_neg (by decide), List.filter_append, List.filter_eq_self.2]
  · rfl
  · intro a ha
    obtain ⟨l, _, rfl⟩ := List.mem_map.1 ha
    rfl
theorem SmtpMails_c [Gh] (m : Sl (List UInt8)) {h : Heap} (om : StrsOk h m) {Q : Value → Heap → Prop} (hk : ∀ h', Fr (fun _ => False) h h' → Q (.bool true) h') : CallT Tryd.prog fn_law30_SmtpMails #[.slice m.p m.xs.length m.cap] h Q := by
  apply law30_SmtpMails_s
  unfold law30_SmtpMails_v
  refine lives_c fun h1 f1 => ⟨_, rfl, ?_⟩
  rw [if_neg (by decide)]
  refine ifD (fun _ => hk h1 f1) fun e1 => ?_
  have D1 := Rd.fr0 f1 (StrsOk.rd om)
  refine LoopV.go (fun n s h' => ∃ i : Nat, s = (i : Int) ∧ i ≤ m.xs.length ∧ n = m.xs.length - i ∧ h' = h1 ∧ ∀ x ∈ m.xs.take i, mlOk x) m.xs.length ⟨0, rfl, by omega, rfl, rfl, by simp⟩ ?_
  rintro n - h2 ⟨i, rfl, hi, rfl, rfl, hall⟩ Kn hK
  unfold law30_SmtpMails_l1
  refine ifD (fun e => ?_) fun e => ?_
  · have hlt : i < m.xs.length := by omega
    have get : ∀ {K : ByteArray → Prop}, K (bs m.xs[i]) → idxA (i : Int) m.xs.length (nn m.p fun t21 => ldS h2 (Addr.add t21 ((i : Int).toNat * 1)) K) := fun {K} hK => D1.get i rfl hlt fun ad ci => by
      rw [Int.toNat_natCast]
      exact ldS_mk (ci.at0 rfl) hK
    refine get ?_
    rw [bs_size]
    refine ifD (fun _ => hk h2 f1) fun e2 => get ?_
    have scan : LoopV (fun (s : Int) h Kn2 => law30_SmtpMails_l2 m.p m.xs.length m.cap (i : Int) Q Kn s h Kn2) 0 h2 := by
      refine LoopV.go (fun n s h' => ∃ j : Nat, s = (j : Int) ∧ j ≤ m.xs[i].length ∧ n = m.xs[i].length - j ∧ h' = h2 ∧ ∀ x ∈ m.xs[i].take j, x ≠ 10) m.xs[i].length ⟨0, rfl, by omega, rfl, rfl, by simp⟩ ?_
      rintro n - h3 ⟨j, rfl, hj, rfl, rfl, hno⟩ Kn2 hK2
      unfold law30_SmtpMails_l2
      refine get ?_
      rw [bs_size]
      refine ifD (fun e3 => get ?_) fun e3 => ?_
      · have hjl : j < m.xs[i].length := by omega
        refine ixS m.xs[i] j rfl hjl ?_
        refine ifE (fun _ => hk h3 f1) fun e4 => ?_
        rw [wr (by omega) (by omega)]
        refine hK2 (m.xs[i].length - (j + 1)) _ _ (by omega) ⟨j + 1, rfl, hjl, rfl, rfl, ?_⟩
        rw [show m.xs[i].take (j + 1) = m.xs[i].take j ++ [m.xs[i][j]] by rw [List.take_append_getElem]]
        intro x hx
        rcases List.mem_append.1 hx with h | h
        · exact hno x h
        · rw [List.mem_singleton.1 h]; intro h10; exact e4 (by rw [h10]; rfl)
      · have hjl : j = m.xs[i].length := by omega
        subst hjl
        rw [List.take_length] at hno
        rw [wr (by omega) (by omega)]
        refine hK (m.xs.length - (i + 1)) _ _ (by omega) ⟨i + 1, rfl, hlt, rfl, rfl, ?_⟩
        rw [show m.xs.take (i + 1) = m.xs.take i ++ [m.xs[i]] by rw [List.take_append_getElem]]
        intro x hx
        rcases List.mem_append.1 hx with h | h
        · exact hall x h
        · rw [List.mem_singleton.1 h]; exact ⟨by omega, hno⟩
    refine ifSn (m := []) (fun e3 => ?_) fun _ => scan
    have hpos := List.length_pos_iff.2 e3
    refine get (get ?_)
    rw [bs_size, wr (by omega) (by omega)]
    refine ixS m.xs[i] (m.xs[i].length - 1) (by omega) (by omega) ?_
    exact ifE (fun _ => hk h2 f1) fun _ => scan
  · have hil : i = m.xs.length := by omega
    subst hil
    rw [List.take_length] at hall
    unfold law30_SmtpMails_b3
    have M0 : Many h h2 [] [] := Many.start.fr0 f1
    refine M0.new fun p h3 M1 => ⟨_, rfl, ?_⟩
    have M1 : Many h h3 [(p, st0)] [] := M1
    refine M1.feed 0 (by simp) false tH (by show wt st0 + _ ≤ _; rw [wt0]; decide) 1 (by omega) fun q1 cc1 h4 M2 => ⟨_, _, _, rfl, ?_⟩
    have M2 : Many h h4 [(p, (feedP st0 false tH).1)] [⟨1, q1, cc1, (feedP st0 false tH).2⟩] := M2
    rw [mail1] at M2
    have M2 : Many h h4 [(p, stM)] [⟨1, q1, cc1, [evHi]⟩] := M2
    refine Mail_c (Rd.fr0 M2.fr (StrsOk.rd om)) (fun x hx => by have := (hall x hx).1; omega) (by omega) fun h5 f5 => ⟨_, rfl, ?_⟩
    have hml : (mailL m.xs).length ≤ 10003100 := by
      have := ml_le m.xs (fun x hx => by have := (hall x hx).1; omega) (by omega) m.xs.length
      rw [List.take_length] at this
      unfold mailL; rw [List.length_append, show ([46, 13, 10] : Nm).length = 3 from rfl]; omega
    have eD : (⟨#[68, 65, 84, 65, 13, 10]⟩ : ByteArray) = bs tDD := rfl
    have eQ : (⟨#[81, 85, 73, 84, 13, 10]⟩ : ByteArray) = bs tQ := rfl
    rw [eD, eQ, bs_append, bs_append, bs_size, bs_size, bs_size, bs_size]
    have l1 : tDD.length = 6 := rfl
    have l2 : tQ.length = 6 := rfl
    refine ⟨Int.le_trans (b := 20003100) (by omega) (by decide), Int.le_trans (b := 20003100) (by rw [List.length_append]; omega) (by decide), ?_⟩
    have M3 := M2.fr0 f5
    refine M3.feed 0 (by simp) true (tDD ++ mailL m.xs ++ tQ) (by show wt stM + _ ≤ _; rw [show wt stM = 7 from rfl, List.length_append, List.length_append]; omega) 2 (by omega) fun q2 cc2 h6 M4 => ⟨_, _, _, rfl, ?_⟩
    have M4 : Many h h6 [(p, (feedP stM true (tDD ++ mailL m.xs ++ tQ)).1)] [⟨2, q2, cc2, (feedP stM true (tDD ++ mailL m.xs ++ tQ)).2⟩, ⟨1, q1, cc1, [evHi]⟩] := M4
    have g1 : (feedP ([(p, stM)][0] : SesA × PS).2 true (tDD ++ mailL m.xs ++ tQ)).2 = mailE m.xs := by show (feedP stM true (tDD ++ mailL m.xs ++ tQ)).2 = _; rw [mail2 _ hall]
    rw [g1]
    rw [mail2 _ hall] at M4
    have D4 : Rd 4 evV h6 q2 (mailE m.xs) := M4.rd (r := ⟨2, q2, cc2, mailE m.xs⟩) (by simp)
    have hml2 : (mailE m.xs).length = m.xs.length + 4 := by unfold mailE; simp
    refine Of_c D4 (by omega) 1 fun q c h7 f7 R7 hq7 => ⟨_, _, _, rfl, ?_⟩
    have F7 := M4.fr.trans f7
    have DM := Rd.fr0 F7 (StrsOk.rd om)
    rw [mailOf] at R7 ⊢
    have D7 := R7.rd evV_len (by omega)
    clear R7
    generalize hL : (⟨1, 1, kDATA, []⟩ :: (m.xs.map gL ++ [⟨4, 1, [], []⟩, ⟨1, 1, kQUIT, []⟩]) : List Ev) = L at *
    have hLl : L.length = m.xs.length + 3 := by rw [← hL]; simp
    have g0 : L[0]'(by omega) = ⟨1, 1, kDATA, []⟩ := by subst hL; rfl
    have gE : L[m.xs.length + 1]'(by omega) = ⟨4, 1, [], []⟩ := by subst hL; simp [List.getElem_append]
    have gQ : L[m.xs.length + 2]'(by omega) = ⟨1, 1, kQUIT, []⟩ := by subst hL; simp [List.getElem_append]
    have gM : ∀ i (hi : i < m.xs.length), L[i + 1]'(by omega) = gL m.xs[i] := fun i hi => by subst hL; simp [List.getElem_append, hi]
    rw [wr (x := ((m.xs.length : Nat) : Int) + 3) (by omega) (by omega), wr (x := ((m.xs.length : Nat) : Int) + 1) (by omega) (by omega), wr (x := ((m.xs.length : Nat) : Int) + 2) (by omega) (by omega)]
    refine ifNe (fun e => absurd (by omega) e) fun _ => ?_
    refine D7.get 0 rfl (by omega) fun ad ci => ?_
    rw [g0] at ci
    have ci := evC ci
    refine ldS_mk (ci.at (j := 2) rfl) ?_
    rw [if_neg (by decide +kernel)]
    refine D7.get (m.xs.length + 1) (by omega) (by omega) fun ad ci => ?_
    rw [gE] at ci
    have ci := evC ci
    have en : (((m.xs.length : Nat) : Int) + 1).toNat = m.xs.length + 1 := by omega
    rw [en]
    refine ldI_mk (ci.at0 rfl) (ldI_mk (ci.at (j := 1) rfl) (ldS_mk (ci.at (j := 2) rfl) (ldS_mk (ci.at (j := 3) rfl) ?_)))
    rw [if_neg (by decide +kernel)]
    refine D7.get (m.xs.length + 2) (by omega) (by omega) fun ad ci => ?_
    rw [gQ] at ci
    have ci := evC ci
    have en2 : (((m.xs.length : Nat) : Int) + 2).toNat = m.xs.length + 2 := by omega
    rw [en2]
    refine ldS_mk (ci.at (j := 2) rfl) ?_
    rw [if_neg (by decide +kernel)]
    refine LoopV.go (fun n s h' => ∃ i : Nat, s = (i : Int) ∧ i ≤ m.xs.length ∧ n = m.xs.length - i ∧ h' = h7) m.xs.length ⟨0, rfl, by omega, rfl, rfl⟩ ?_
    rintro n - h8 ⟨i, rfl, hi, rfl, rfl⟩ Kn2 hK2
    unfold law30_SmtpMails_l4
    refine ifD (fun e => ?_) fun _ => hk h8 F7
    have hlt : i < m.xs.length := by omega
    rw [wr (by omega) (by omega)]
    refine D7.get (i + 1) (by omega) (by omega) fun ad ci => ?_
    rw [gM i hlt] at ci
    have ci := evC ci
    have en3 : (((i : Nat) : Int) + 1).toNat = i + 1 := by omega
    rw [en3]
    refine ldI_mk (ci.at0 rfl) (ldI_mk (ci.at (j := 1) rfl) (ldS_mk (ci.at (j := 2) rfl) (ldS_mk (ci.at (j := 3) rfl) ?_)))
    refine DM.get i rfl hlt fun ad ci => ?_
    rw [Int.toNat_natCast]
    refine ldS_mk (ci.at0 rfl) ?_
    have hb : (bs (gL m.xs[i]).Text == bs m.xs[i]) = true := by rw [bs_beq]; exact beq_self_eq_true _
    have hb2 : (bs (gL m.xs[i]).Name == (⟨#[]⟩ : ByteArray)) = true := by show (bs [] == bs []) = true; rw [bs_beq]; rfl
    rw [hb, hb2]
    have hz : (!((gL m.xs[i]).Kind == 3 && ((gL m.xs[i]).Dir == 1 && (true && (true && true))))) = false := rfl
    rw [if_neg (nt hz)]
    exact hK2 (m.xs.length - (i + 1)) _ _ (by omega) ⟨i + 1, rfl, hlt, rfl, rfl⟩
end Go.Proofs.YtdpimhlppflidaaDoor
