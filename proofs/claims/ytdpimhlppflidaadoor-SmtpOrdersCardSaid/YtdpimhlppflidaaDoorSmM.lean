/-
  Sessions side by side, with the lists of events that are held.
-/
import Derived.Test.YtdpimhlppflidaaDoorSmL
namespace Go.Proofs.YtdpimhlppflidaaDoor
set_option linter.unusedSimpArgs false
set_option linter.unusedVariables false
set_option maxRecDepth 20000
open Go
open Go.IntKind (wrap)
structure RowR where
  t : Nat
  q : Option Addr
  c : Nat
  L : List Ev
structure Many (h0 h : Heap) (ss : List (SesA × PS)) (rs : List RowR) : Prop where
  ex : ∃ o : Tag, (∀ i (hi : i < ss.length), SesF o (100 * (i + 1)) h ss[i].1 ss[i].2) ∧ (∀ i, NoO o (100 * (i + 1))) ∧ (∀ x, x < h0.size → o x = 0) ∧ (∀ r ∈ rs, (0 < r.t ∧ r.t < 100) ∧ Row 4 evV h r.q r.c r.L ∧ ∀ x, InA r.q x → o x = r.t)
  fr : Fr (fun _ => False) h0 h
section
variable {h0 h : Heap} {ss : List (SesA × PS)} {rs : List RowR}
theorem Many.start : Many h h [] [] := ⟨⟨fun _ => 0, fun i hi => absurd hi (Nat.not_lt_zero _), fun i x => by constructor <;> (show (0 : Nat) ≠ _; omega), fun _ _ => rfl, fun r hr => by cases hr⟩, Fr.refl _ _⟩
theorem Many.fr0 {h' : Heap} (M : Many h0 h ss rs) (f : Fr (fun _ => False) h h') : Many h0 h' ss rs := by
  obtain ⟨⟨o, S, N, Z, R⟩, F⟩ := M
  exact ⟨⟨o, fun i hi => (S i hi).fr f (fun _ _ h => h.elim) (Old.refl _ _), N, Z, fun r hr => ⟨(R r hr).1, (R r hr).2.1.fr0 f, (R r hr).2.2⟩⟩, F.trans f⟩
theorem Many.sub {rs' : List RowR} (M : Many h0 h ss rs) (hs : ∀ r ∈ rs', r ∈ rs) : Many h0 h ss rs' := by
  obtain ⟨⟨o, S, N, Z, R⟩, F⟩ := M
  exact ⟨⟨o, S, N, Z, fun r hr => R r (hs r hr)⟩, F⟩
theorem Many.row (M : Many h0 h ss rs) {r : RowR} (hr : r ∈ rs) : Row 4 evV h r.q r.c r.L := by
  obtain ⟨⟨o, S, N, Z, R⟩, F⟩ := M
  exact (R r hr).2.1
theorem Many.rd (M : Many h0 h ss rs) {r : RowR} (hr : r ∈ rs) : Rd 4 evV h r.q r.L := (M.row hr).rd evV_len (by omega)
theorem Many.new [Gh] (M : Many h0 h ss rs) {Q : Value → Heap → Prop} (hk : ∀ p h', Many h0 h' (ss ++ [(p, st0)]) rs → Q (.pointer (some p.a)) h') : CallT Tryd.prog fn_smtp_New #[] h Q := by
  obtain ⟨⟨o, S, N, Z, R⟩, F⟩ := M
  have z := F.size
  refine New_c o (100 * (ss.length + 1)) (N _) fun p o' h' hO hN hr f S' => ?_
  refine hk p h' ⟨⟨o', fun i hi => ?_, fun i x => ?_, fun x hx => by rw [hO x (by omega)]; exact Z x hx, fun r hr => ⟨(R r hr).1, (R r hr).2.1.fr0 f, fun x hx => ?_⟩⟩, F.trans f⟩
  · by_cases hlt : i < ss.length
    · rw [List.getElem_append_left hlt]
      exact (S i hlt).fr f (fun _ _ h => h.elim) hO
    · have : i = ss.length := by rw [List.length_append, List.length_singleton] at hi; omega
      subst this
      simp only [List.getElem_concat_length]
      exact S'
  · have h1 := hr x; have h2 := N i x; have h3 := hN x
    by_cases hi : i = ss.length
    · subst hi; exact h3
    · omega
  · rw [hO x ((R r hr).2.1.lt hx)]; exact (R r hr).2.2 x hx
theorem Many.feed [Gh] (M : Many h0 h ss rs) (i : Nat) (hi : i < ss.length) (d : Bool) (s : Nm) (hw : wt ss[i].2 + s.length ≤ 2 ^ 24) (t : Nat) (ht : 0 < t ∧ t < 100) {Q : Value → Heap → Prop}
    (hk : ∀ q c h', Many h0 h' (ss.set i (ss[i].1, (feedP ss[i].2 d s).1)) (⟨t, q, c, (feedP ss[i].2 d s).2⟩ :: rs) → Q (.slice q (feedP ss[i].2 d s).2.length c) h') :
    CallT Tryd.prog fn_smtp_Session_Feed #[.pointer (some ss[i].1.a), .int .i64 (dI2 d), .string (bs s)] h Q := by
  obtain ⟨⟨o, S, N, Z, R⟩, F⟩ := M
  have z := F.size
  refine FeedT_c (S i hi) (N i) d s hw t (by omega) fun o' h' q c hO hN hr f S' R' hq => ?_
  have zf := f.size
  refine hk q c h' ⟨⟨o', fun j hj => ?_, fun j x => ?_, fun x hx => by rw [hO x (by omega)]; exact Z x hx, fun r hr' => ?_⟩, F.tr f fun x hx hh => by have := Z x hx; unfold SR at hh; omega⟩
  · rw [List.length_set] at hj
    rw [List.getElem_set]
    split
    · rename_i hij; subst hij; exact S'
    · exact (S j hj).fr f (fun x hx hh => by unfold SR at hh; omega) hO
  · have h2 := N j x
    by_cases hx : x < h.size
    · rw [hO x hx]; exact h2
    · have h1 := hr x (by omega); have h3 := hN x
      by_cases hij : j = i
      · subst hij; exact h3
      · omega
  · rcases List.mem_cons.1 hr' with rfl | hr'
    · exact ⟨ht, R', fun x hx => (hq x hx).2⟩
    · obtain ⟨h1, h2, h3⟩ := R r hr'
      exact ⟨h1, h2.fr f fun x hx hh => by have := h3 x hx; unfold SR at hh; omega, fun x hx => by rw [hO x (h2.lt hx)]; exact h3 x hx⟩
theorem Many.feed_no [Gh] (dir : Int) (h1 : dir ≠ 1) (h2 : dir ≠ 2) (M : Many h0 h ss rs) (s : Nm) {q : Option Addr} (t : Nat) (ht : 0 < t ∧ t < 100) {Q : Value → Heap → Prop} (hk : Many h0 h ss (⟨t, none, 0, []⟩ :: rs) → Q (.slice none 0 0) h) : CallT Tryd.prog fn_smtp_Session_Feed #[.pointer q, .int .i64 dir, .string (bs s)] h Q := by
  obtain ⟨⟨o, S, N, Z, R⟩, F⟩ := M
  refine Feed_no dir h1 h2 s (hk ⟨⟨o, S, N, Z, fun r hr => ?_⟩, F⟩)
  rcases List.mem_cons.1 hr with rfl | hr
  · exact ⟨ht, Row.nil, fun x hx => (notInA hx).elim⟩
  · exact R r hr
theorem Many.op [Gh] (M : Many h0 h ss rs) (i : Nat) (hi : i < ss.length) {Q : Value → Heap → Prop} (hk : Q (.bool ss[i].2.op) h) : CallT Tryd.prog fn_smtp_Session_Opaque #[.pointer (some ss[i].1.a)] h Q := by
  obtain ⟨⟨o, S, N, Z, R⟩, F⟩ := M
  exact Opaque_c (S i hi) hk
theorem Many.app [Gh] {r1 r2 : RowR} (M : Many h0 h ss (r2 :: r1 :: rs)) (hne : r2.t ≠ r1.t) (hd : ∀ r ∈ rs, r.t ≠ r1.t) (hl : r1.L.length + r2.L.length ≤ 2 ^ 30) {K : Value → Heap → Prop}
    (hk : ∀ q c h', Many h0 h' ss (⟨r1.t, q, c, r1.L ++ r2.L⟩ :: r2 :: rs) → K (.slice q (r1.L ++ r2.L).length c) h') :
    bltV Tryd.prog .append #[T_sl_api_SmtpEvent, T_sl_api_SmtpEvent] T_sl_api_SmtpEvent #[false, false] #[.slice r1.q r1.L.length r1.c, .slice r2.q r2.L.length r2.c] h K := by
  obtain ⟨⟨o, S, N, Z, R⟩, F⟩ := M
  have z := F.size
  obtain ⟨t1, R1, I1⟩ := R r1 (by simp)
  obtain ⟨t2, R2, I2⟩ := R r2 (by simp)
  refine R1.appL el_ev Tryd.underlying30 (by intro k e; cases e) (by kernel_rfl) (by decide +kernel) evV_len (fun _ => rfl) (R2.src evV_len (by omega)) hl fun p' cap' h' R' f hn => ?_
  have hO : Old h o (upT o h.size r1.t) := Old.up (Nat.le_refl _)
  have zf := f.size
  refine hk p' cap' h' ⟨⟨upT o h.size r1.t, fun i hi => (S i hi).fr f (fun x hx hh => by have := I1 x hh; omega) hO, fun i x => ?_, fun x hx => by rw [upT_lt (by omega)]; exact Z x hx, fun r hr => ?_⟩, F.tr f fun x hx hh => by have := Z x hx; have := I1 x hh; omega⟩
  · have := N i x
    unfold upT; split
    · exact this
    · omega
  · rcases List.mem_cons.1 hr with rfl | hr
    · refine ⟨t1, R', fun x hx => ?_⟩
      rcases hn x hx with h | h
      · rw [upT_lt (R1.lt h)]; exact I1 x h
      · exact upT_ge h
    · have hrne : r.t ≠ r1.t := by
        rcases List.mem_cons.1 hr with rfl | hr
        · exact hne
        · exact hd r hr
      obtain ⟨t3, R3, I3⟩ := R r (by rcases List.mem_cons.1 hr with rfl | hr <;> simp [*])
      exact ⟨t3, R3.fr f fun x hx hh => by have := I1 x hh; have := I3 x hx; omega, fun x hx => by rw [upT_lt (R3.lt hx)]; exact I3 x hx⟩
end
end Go.Proofs.YtdpimhlppflidaaDoor
