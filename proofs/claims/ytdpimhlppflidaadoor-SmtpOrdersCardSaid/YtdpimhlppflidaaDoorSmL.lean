/-
  Of and Mail of the reference; the law Lists.
-/
import Derived.Test.YtdpimhlppflidaaDoorSmK
namespace Go.Proofs.YtdpimhlppflidaaDoor
set_option linter.unusedSimpArgs false
set_option linter.unusedVariables false
set_option maxRecDepth 20000
open Go
open Go.IntKind (wrap)
theorem rOf_c [Gh] {h : Heap} {a : Option Addr} {cap : Nat} {L : List Ev} (R : Rd 4 evV h a L) (hl : L.length ≤ 2 ^ 28) (dir : Int) {Q : Value → Heap → Prop}
    (hk : ∀ q c h', Fr (fun _ => False) h h' → Row 4 evV h' q c (ofL L dir) → (∀ x, InA q x → h.size ≤ x) → Q (.slice q (ofL L dir).length c) h') :
    CallT Tryd.prog fn_ref30_Of #[.slice a L.length cap, .int .i64 dir] h Q := by
  apply ref30_Of_s
  unfold ref30_Of_v
  refine LoopV.go (fun n s h' => ∃ i : Nat, s.2.2.2 = (i : Int) ∧ i ≤ L.length ∧ n = L.length - i ∧ s.2.1 = (ofL (L.take i) dir).length ∧ Fr (fun _ => False) h h' ∧ Row 4 evV h' s.1 s.2.2.1 (ofL (L.take i) dir) ∧ ∀ x, InA s.1 x → h.size ≤ x) L.length
    ⟨0, rfl, by omega, rfl, rfl, Fr.refl _ _, Row.nil, fun x hx => (notInA hx).elim⟩ ?_
  rintro n ⟨q, m, c, t⟩ h1 ⟨i, ht, hi, rfl, hm, f1, R1, hq⟩ Kn hK
  have ht : t = (i : Int) := ht
  have hm : m = (ofL (L.take i) dir).length := hm
  have R1 : Row 4 evV h1 q c (ofL (L.take i) dir) := R1
  have hq : ∀ x, InA q x → h.size ≤ x := hq
  subst ht hm
  dsimp only
  unfold ref30_Of_l1
  have z1 := f1.size
  refine ifD (fun e => ?_) fun e => ?_
  · have hlt : i < L.length := by omega
    refine (Rd.fr0 f1 R).get i rfl hlt fun ad ci => ?_
    have ci := evC ci
    rw [Int.toNat_natCast]
    refine ldI_mk (ci.at (j := 1) rfl) ?_
    have hot := ofL_take L dir i hlt
    rw [wr (by omega) (by omega)]
    have hfl : (ofL (L.take i) dir).length ≤ i := Nat.le_trans (List.length_filter_le ..) (by rw [List.length_take]; omega)
    refine ifE (fun e4 => ?_) fun e4 => ?_
    · rw [if_pos e4] at hot
      refine (Rd.fr0 f1 R).get i rfl hlt fun ad ci => ?_
      have ci := evC ci
      refine ldI_mk (ci.at0 rfl) (ldI_mk (ci.at (j := 1) rfl) (ldS_mk (ci.at (j := 2) rfl) (ldS_mk (ci.at (j := 3) rfl) ?_)))
      refine al_mk (vs := evV L[i]) fun t20 h4 f4 e4 o4 => ?_
      have z4 := f4.size
      refine appEv (Row.fr0 f4 R1) o4 (by omega) fun p2 c2 h5 R2 f5 hn2 => ⟨_, _, _, rfl, ?_⟩
      refine hK (L.length - (i + 1)) _ _ (by omega) ⟨i + 1, rfl, hlt, rfl, by dsimp only; rw [hot], (f1.trans f4).tr f5 fun x hx hi => by have := hq x hi; omega, by dsimp only; rw [hot]; exact R2, fun x hx => ?_⟩
      rcases hn2 x hx with h | h
      · exact hq x h
      · omega
    · rw [if_neg e4] at hot
      refine hK (L.length - (i + 1)) _ _ (by omega) ⟨i + 1, rfl, hlt, rfl, by dsimp only; rw [hot], f1, by dsimp only; rw [hot]; exact R1, hq⟩
  · have hil : i = L.length := by omega
    subst hil
    rw [List.take_length] at *
    exact hk q c h1 f1 R1 hq
theorem rMail_c [Gh] {h : Heap} {a : Option Addr} {cap : Nat} {m : List Nm} (R : Rd 1 strV h a m) (hm : ∀ x ∈ m, x.length ≤ 10000) (hl : m.length ≤ 1000) {Q : Value → Heap → Prop}
    (hk : Q (.string (bs (mailL m))) h) : CallT Tryd.prog fn_ref30_Mail #[.slice a m.length cap] h Q := by
  apply ref30_Mail_s
  unfold ref30_Mail_v
  refine LoopV.go (fun n s h' => ∃ i : Nat, s.2 = (i : Int) ∧ i ≤ m.length ∧ n = m.length - i ∧ h' = h ∧ s.1 = bs ((m.take i).flatMap mlL)) m.length ⟨0, rfl, by omega, rfl, rfl, rfl⟩ ?_
  rintro n ⟨s, t⟩ h2 ⟨i, ht, hi, rfl, rfl, hs⟩ Kn hK
  have ht : t = (i : Int) := ht
  have hs : s = bs ((m.take i).flatMap mlL) := hs
  subst ht hs
  dsimp only
  unfold ref30_Mail_l1
  have hle := ml_le m hm hl i
  have e46 : (⟨#[46]⟩ : ByteArray).size = 1 := rfl
  have e1310 : (⟨#[13, 10]⟩ : ByteArray).size = 2 := rfl
  refine ifD (fun e => ?_) fun e => ?_
  · have hlt : i < m.length := by omega
    have htk := ml_take m i hlt
    have hli := hm m[i] (List.getElem_mem hlt)
    have b2 : ∀ {pre : Nm}, pre.length ≤ 10003001 → pre ++ (m[i] ++ [13, 10]) = (m.take (i + 1)).flatMap mlL → ref30_Mail_b2 a m.length cap (bs pre) (i : Int) Q Kn h2 := fun {pre} hp heq => by
      unfold ref30_Mail_b2
      refine R.get i rfl hlt fun ad ci => ?_
      rw [Int.toNat_natCast]
      refine ldS_mk (ci.at0 rfl) ?_
      rw [show bs m[i] ++ (⟨#[13, 10]⟩ : ByteArray) = bs (m[i] ++ [13, 10]) from bs_append _ _, bs_size, bs_size, bs_size, bs_append, heq, wr (by omega) (by omega)]
      refine ⟨Int.le_trans (b := 10002) (by omega) (by decide), Int.le_trans (b := 10013005) (by rw [List.length_append]; simp; omega) (by decide), ?_⟩
      exact hK (m.length - (i + 1)) _ _ (by omega) ⟨i + 1, rfl, hlt, rfl, rfl, rfl⟩
    refine R.get i rfl hlt fun ad ci => ?_
    rw [Int.toNat_natCast]
    refine ldS_mk (ci.at0 rfl) ?_
    refine ifSn (m := []) (fun e1 => ?_) fun e1 => ?_
    · have hpos := List.length_pos_iff.2 e1
      refine R.get i rfl hlt fun ad ci => ?_
      refine ldS_mk (ci.at0 rfl) (ixS m[i] 0 rfl hpos ?_)
      refine ifE (fun e2 => ?_) fun e2 => ?_
      · have e4 : m[i].take 1 = [46] := by
          match h0 : m[i], hpos, e2 with
          | c :: r, _, e2 => exact congrArg (fun c => [c]) (byteI_inj e2)
        have eml : mlL m[i] = [46] ++ (m[i] ++ [13, 10]) := by unfold mlL; rw [if_pos e4]
        refine ⟨by rw [bs_size, e46]; exact Int.le_trans (b := 10003001) (by omega) (by decide), ?_⟩
        rw [show bs ((m.take i).flatMap mlL) ++ (⟨#[46]⟩ : ByteArray) = bs ((m.take i).flatMap mlL ++ [46]) from bs_append _ _]
        exact b2 (by rw [List.length_append, List.length_singleton]; omega) (by rw [htk, eml, List.append_assoc])
      · have e4 : ¬ m[i].take 1 = [46] := by
          match h0 : m[i], hpos, e2 with
          | c :: r, _, e2 =>
            intro hh
            have : c = 46 := by simpa using hh
            exact e2 (by show byteI c = 46; rw [this]; rfl)
        have eml : mlL m[i] = m[i] ++ [13, 10] := by unfold mlL; rw [if_neg e4]; rfl
        exact b2 (by omega) (by rw [htk, eml])
    · have e4 : ¬ m[i].take 1 = [46] := by rw [e1]; decide
      have eml : mlL m[i] = m[i] ++ [13, 10] := by unfold mlL; rw [if_neg e4]; rfl
      exact b2 (by omega) (by rw [htk, eml])
  · have hil : i = m.length := by omega
    subst hil
    rw [List.take_length] at hle ⊢
    have e3 : (⟨#[46, 13, 10]⟩ : ByteArray).size = 3 := rfl
    refine ⟨by rw [bs_size, e3]; exact Int.le_trans (b := 10003003) (by omega) (by decide), ?_⟩
    unfold mailL at hk
    rw [← bs_append] at hk; exact hk
abbrev EvsOk (h : Heap) (s : Sl Ev) : Prop := SlOk 4 S_api_SmtpEvent.vals S_api_SmtpEvent.ok h s
abbrev StrsOk (h : Heap) (s : Sl (List UInt8)) : Prop := SlOk 1 (fun l : List UInt8 => [Value.string (bs l)]) sOk h s
theorem StrsOk.rd {h : Heap} {s : Sl (List UInt8)} (o : StrsOk h s) : Rd 1 strV h s.p s.xs := SlOk.rd o
theorem EvsOk.rd {h : Heap} {s : Sl Ev} (o : EvsOk h s) : Rd 4 evV h s.p s.xs := SlOk.rd o
theorem SmtpLists_c [Gh] (l : Sl Ev) (dir : Int) (m : Sl (List UInt8)) {h : Heap} (o : EvsOk h l) (_ : kOk .i64 h dir) (om : StrsOk h m) {Q : Value → Heap → Prop} (hk : ∀ h', Fr (fun _ => False) h h' → Q (.bool true) h') :
    CallT Tryd.prog fn_law30_SmtpLists #[.slice l.p l.xs.length l.cap, .int .i64 dir, .slice m.p m.xs.length m.cap] h Q := by
  apply law30_SmtpLists_s
  unfold law30_SmtpLists_v
  have lv : ∀ {h' : Heap}, Fr (fun _ => False) h h' → CallT Tryd.prog fn_law30_lives #[] h' fun v h1 => ∃ t16 : Bool, v = .bool t16 ∧ Q (.bool t16) h1 := fun f => lives_c fun h1 f1 => ⟨_, rfl, hk h1 (f.trans f1)⟩
  refine ifD (fun _ => lv (Fr.refl _ _)) fun e1 => ifD (fun _ => lv (Fr.refl _ _)) fun e2 => ?_
  refine LoopV.go (fun n s h' => ∃ i : Nat, s = (i : Int) ∧ i ≤ m.xs.length ∧ n = m.xs.length - i ∧ h' = h ∧ ∀ x ∈ m.xs.take i, x.length ≤ 600) m.xs.length ⟨0, rfl, by omega, rfl, rfl, by simp⟩ ?_
  rintro n - h2 ⟨i, rfl, hi, rfl, rfl, hall⟩ Kn hK
  unfold law30_SmtpLists_l1
  refine ifD (fun e => ?_) fun e => ?_
  · have hlt : i < m.xs.length := by omega
    refine (StrsOk.rd om).get i rfl hlt fun ad ci => ?_
    rw [Int.toNat_natCast]
    refine ldS_mk (ci.at0 rfl) ?_
    rw [bs_size]
    refine ifD (fun _ => lv (Fr.refl _ _)) fun e3 => ?_
    rw [wr (by omega) (by omega)]
    refine hK (m.xs.length - (i + 1)) _ _ (by omega) ⟨i + 1, rfl, hlt, rfl, rfl, ?_⟩
    rw [show m.xs.take (i + 1) = m.xs.take i ++ [m.xs[i]] by rw [List.take_append_getElem]]
    intro x hx
    rcases List.mem_append.1 hx with h | h
    · exact hall x h
    · rw [List.mem_singleton.1 h]; omega
  · have hil : i = m.xs.length := by omega
    subst hil
    rw [List.take_length] at hall
    unfold law30_SmtpLists_b2
    have D := EvsOk.rd o
    refine Of_c D (by omega) dir fun q c h3 f3 R3 hq3 => ⟨_, _, _, rfl, ?_⟩
    refine rOf_c (Rd.fr0 f3 D) (by omega) dir fun q2 c2 h4 f4 R4 hq4 => ⟨_, _, _, rfl, ?_⟩
    have hfl : (ofL l.xs dir).length ≤ l.xs.length := List.length_filter_le ..
    refine Same_c ((R3.fr0 f4).rd evV_len (by omega)) (R4.rd evV_len (by omega)) (by omega) ⟨_, rfl, ?_⟩
    rw [if_pos rfl]
    have F4 := f3.trans f4
    have M4 := Rd.fr0 F4 (StrsOk.rd om)
    refine Mail_c M4 (fun x hx => by have := hall x hx; omega) (by omega) fun h5 f5 => ⟨_, rfl, ?_⟩
    refine rMail_c (Rd.fr0 f5 M4) (fun x hx => by have := hall x hx; omega) (by omega) ⟨_, rfl, ?_⟩
    rw [if_pos (by simp)]
    exact lv (F4.trans f5)
end Go.Proofs.YtdpimhlppflidaaDoor
