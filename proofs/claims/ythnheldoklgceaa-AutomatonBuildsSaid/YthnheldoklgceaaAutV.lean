/-
  The reference: Build, States, Begin, Scan, At.
-/
import Derived.Test.YthnheldoklgceaaAutU
import Derived.Test.YthnheldoklgceaaMapT
namespace Go.Proofs.Ythnheldoklgceaa
set_option linter.unusedSimpArgs false
set_option linter.unusedVariables false
set_option maxRecDepth 20000
open Go
open Go.IntKind (wrap)
/-- The reference's automaton stays. -/
def RefS (N : Nat) (h : Heap) (a : Addr) (L : List Pt) : Prop := N ≤ h.size ∧ ∀ h', Fr (fun x => N ≤ x) h h' → ∃ pq pc, Cells h' a [.slice pq L.length pc] ∧ PtOk h' pq L
section
variable {N : Nat} {h : Heap} {c a : Addr} {L : List Pt} {text : Nm}
theorem RefS.fr {S : Nat → Prop} {h' : Heap} (A : RefS N h a L) (f : Fr S h h') (hs : ∀ x, x < h.size → S x → N ≤ x) : RefS N h' a L := ⟨Nat.le_trans A.1 f.size, fun h2 f2 => A.2 h2 ((f.mono' hs).trans f2)⟩
theorem RefS.fr0 {h' : Heap} (A : RefS N h a L) (f : Fr (fun _ => False) h h') : RefS N h' a L := A.fr f fun _ _ h => h.elim
theorem RefS.up {M : Nat} (A : RefS N h a L) (hM : N ≤ M) (h2 : M ≤ h.size) : RefS M h a L := ⟨h2, fun h' f => A.2 h' (f.mono fun x hx => Nat.le_trans hM hx)⟩
theorem rBuild_c [Gh] (s : Sl Pt) {ok : Heap → Pt → Prop} {h : Heap} (os : SlOk 2 ptV ok h s) (okf : ∀ h h' x, Fr (fun _ => False) h h' → ok h x → ok h' x) (hl : s.xs.length ≤ 2 ^ 20) {Q : Value → Heap → Prop}
    (hbad : ∀ h', Fr (fun _ => False) h h' → errB s.xs ≠ 0 → Q (.tuple #[.pointer none, .int .i64 (errB s.xs)]) h')
    (hk : ∀ a h', Fr (fun _ => False) h h' → RefS h'.size h' a s.xs → errB s.xs = 0 → Q (.tuple #[.pointer (some a), .int .i64 (errB s.xs)]) h') :
    CallT Try.prog fn_ref45_Build #[.slice s.p s.xs.length s.cap] h Q := by
  apply ref45_Build_s
  unfold ref45_Build_v
  unfold errB at hbad hk
  refine ifD (fun e => ?_) fun e => ?_
  · have := hbad h (Fr.refl _ _)
    rw [if_pos (by omega)] at this
    exact this (by decide)
  rw [if_neg (by omega)] at hbad hk
  have S : PtOk h s.p s.xs := fun i hi => by obtain ⟨ad, h1, h2, _⟩ := os.at_ i hi; exact ⟨ad, h1, h2⟩
  refine LoopV.go (fun n st h' => ∃ i : Nat, st = (i : Int) ∧ i ≤ s.xs.length ∧ n = s.xs.length - i ∧ h' = h ∧ errL s.xs = errL (s.xs.drop i)) s.xs.length ⟨0, rfl, by omega, rfl, rfl, by rw [List.drop_zero]⟩ ?_
  rintro n - h1 ⟨i, rfl, hi, rfl, rfl, he⟩ Kn hK
  unfold ref45_Build_l1
  refine ifD (fun e2 => ?_) fun e2 => ?_
  · have hil : i < s.xs.length := by omega
    rw [List.drop_eq_getElem_cons hil, errL_cons] at he
    refine S.get i rfl hil fun ad ci => ?_
    rw [Int.toNat_natCast]
    refine ldS_mk (ci.at0 rfl) (ifS (m := []) (fun e3 => ?_) fun e3 => ?_)
    · rw [if_pos e3] at he
      have := hbad h1 (Fr.refl _ _)
      rw [he] at this; exact this (by decide)
    rw [if_neg e3] at he
    refine S.get i rfl hil fun ad ci => ?_
    refine ldS_mk (ci.at0 rfl) ?_
    rw [bs_size]
    refine ifD (fun e4 => ?_) fun e4 => ?_
    · rw [if_pos (by omega)] at he
      have := hbad h1 (Fr.refl _ _)
      rw [he] at this; exact this (by decide)
    rw [if_neg (by omega)] at he
    rw [wr (by omega) (by omega)]
    exact hK (s.xs.length - (i + 1)) _ _ (by omega) ⟨i + 1, rfl, hil, rfl, rfl, he⟩
  · have hie : i = s.xs.length := by omega
    subst hie
    rw [List.drop_length] at he
    have he : errL s.xs = 0 := he
    unfold ref45_Build_b2
    refine al_mk (vs := []) fun t27 h2 f2 e2 o2 => ?_
    have z2 := f2.size
    have R0 : Row 2 ptV h2 (some t27) 0 [] := Row.of_own (L := []) ptV_len o2
    refine R0.appL el_pt Try.underlying22 (by intro k e; cases e) (by kernel_rfl) (by decide +kernel) ptV_len (fun _ => rfl) ((SlOk.fr0 okf f2 os).src ptV_len) (by rw [List.length_nil]; omega) fun p3 c3 h3 R3 f3 hn3 => ⟨_, _, _, rfl, ?_⟩
    rw [List.nil_append] at R3 ⊢
    have F3 : Fr (fun _ => False) h1 h3 := f2.tr f3 fun x hx hh => by obtain ⟨ad, e1, e3⟩ := hh; cases e1; omega
    refine al_mk (vs := [.slice p3 s.xs.length c3]) fun t31 h4 f4 e4 o4 => ?_
    have := hk t31 h4 (F3.trans f4) ⟨Nat.le_refl _, fun h' f => ?_⟩ he
    · rw [he] at this; exact this
    · have f0 := fr_ge f (Nat.le_refl _)
      exact ⟨p3, c3, (o4.fr0 f0).cells, fun i hi => ((R3.fr0 f4).fr0 f0).cellsAt ptV_len (by omega) i hi⟩
/-- A set of words in a map. -/
def setV (ks : List Nm) : List (Nm × Value) := ks.map fun k => (k, Value.bool true)
def SetM (h : Heap) (r : Nat) (P : Nm → Prop) (n : Nat) : Prop := ∃ ks, MapI strE h r (setV ks) ∧ (∀ w, w ∈ ks ↔ P w) ∧ ks.length ≤ n
theorem SetM.fr {S : Nat → Prop} {h h' : Heap} {r : Nat} {P : Nm → Prop} {n : Nat} (M : SetM h r P n) (f : Fr S h h') (hn : ¬ S r) : SetM h' r P n := by
  obtain ⟨ks, I, p⟩ := M; exact ⟨ks, I.fr f hn, p⟩
theorem setT : KeyT Try.prog T_string strE := strKeyT Try.underlying9
theorem SetM.put [Gh] {h : Heap} {r : Nat} {P : Nm → Prop} {n : Nat} (M : SetM h r P n) (k : Nm) {K : Heap → Prop} (hk : ∀ h', Fr (fun b => b = r) h h' → h'.size = h.size → SetM h' r (fun w => P w ∨ w = k) (n + 1) → K h') :
    mapUpdV Try.prog T_map_string_bool (.map (some r)) (.string (bs k)) (.bool true) h K := by
  obtain ⟨ks, I, p, hl⟩ := M
  refine mapUpd_mk setT Try.underlying57 I k (.bool true) fun h' f s I' => hk h' f s ?_
  by_cases hm : k ∈ ks
  · refine ⟨ks, ?_, fun w => ?_, by omega⟩
    · have e : putL (setV ks) k (.bool true) = setV ks := by
        unfold putL
        have hs : (getL (setV ks) k).isSome = true := get_some.2 ⟨(k, .bool true), List.mem_map.2 ⟨k, hm, rfl⟩, rfl⟩
        rw [if_pos hs]
        unfold setV
        rw [List.map_map]
        refine List.map_congr_left fun x _ => ?_
        show (if x = k then (x, Value.bool true) else (x, Value.bool true)) = _
        split <;> rfl
      rw [e] at I'; exact I'
    · rw [p]
      exact ⟨.inl, fun h => h.elim id fun e => by rw [e]; exact (p k).1 hm⟩
  · refine ⟨ks ++ [k], ?_, fun w => ?_, by rw [List.length_append]; simpa using hl⟩
    · rw [put_new (a := k) (fun e he hek => by
        obtain ⟨x, hx, rfl⟩ := List.mem_map.1 he
        exact hm (hek ▸ hx))] at I'
      have e : setV (ks ++ [k]) = setV ks ++ [(k, .bool true)] := by unfold setV; rw [List.map_append]; rfl
      rw [e]; exact I'
    · rw [List.mem_append, p, List.mem_singleton]
/-- The number of words. -/
theorem SetM.count {h : Heap} {r : Nat} {P : Nm → Prop} {n : Nat} (M : SetM h r P n) {ws : List Nm} (nd : ws.Nodup) (hw : ∀ w, w ∈ ws ↔ P w) : ∃ ks, MapI strE h r (setV ks) ∧ ks.length = ws.length := by
  obtain ⟨ks, I, p, _⟩ := M
  refine ⟨ks, I, ?_⟩
  have hn : ks.Nodup := by
    have := I.keys
    unfold setV at this
    rw [List.map_map] at this
    have e : ((fun x : Nm × Value => x.1) ∘ fun k => (k, Value.bool true)) = fun k => k := rfl
    rw [e, List.map_id'] at this
    exact this
  exact ((List.perm_ext_iff_of_nodup hn nd).2 fun w => by rw [p, hw]).length_eq
theorem rStates_c [Gh] {ws : List Nm} (A : RefS N h a L) (nd : ws.Nodup) (hw : ∀ w, w ∈ ws ↔ isPre L L.length w) (hm : L.length ≤ 512) (hp : ∀ p ∈ L, p.t.length ≤ 64) {Q : Value → Heap → Prop}
    (hk : ∀ h', Fr (fun _ => False) h h' → Q (.int .i64 ws.length) h') : CallT Try.prog fn_ref45_Automaton_States #[.pointer (some a)] h Q := by
  apply ref45_Automaton_States_s
  unfold ref45_Automaton_States_v
  refine ifNS (mkMap_mk strE fun r h1 f1 er I1 => ?_)
  have z1 := f1.size
  have M1 : SetM h1 r (fun _ => False) 0 := ⟨[], I1, fun w => ⟨fun h => absurd h List.not_mem_nil, fun h => h.elim⟩, Nat.le_refl _⟩
  refine M1.put [] fun h2 f2 s2 M2 => ?_
  have F2 : Fr (fun x => x = r) h1 h2 := f2
  have f02 : Fr (fun _ => False) h h2 := f1.tr f2 fun x hx hh => by omega
  refine LoopV.go (fun n st h' => ∃ i : Nat, st = (i : Int) ∧ i ≤ L.length ∧ n = L.length - i ∧ Fr (fun _ => False) h h' ∧ SetM h' r (fun w => isPre L i w) (1 + 64 * i)) L.length ⟨0, rfl, by omega, rfl, f02, ?_⟩ ?_
  · obtain ⟨ks, I, p, hl⟩ := M2
    refine ⟨ks, I, fun w => (p w).trans ?_, by omega⟩
    unfold isPre
    exact ⟨fun h => h.elim (fun h => h.elim) .inl, fun h => by
      rcases h with h | ⟨j, _, hj, _⟩
      · exact .inr h
      · omega⟩
  rintro n - h3 ⟨i, rfl, hi, rfl, f3, M3⟩ Kn hK
  unfold ref45_Automaton_States_l1
  have z3 := f3.size
  obtain ⟨pq, pc, ca, S⟩ := (A.fr0 f3).2 h3 (Fr.refl _ _)
  refine nn_mk (ldL_mk (ca.at0 rfl) (ifD (fun e => ?_) fun e => ?_))
  · have hil : i < L.length := by omega
    refine nn_mk (ldL_mk (ca.at0 rfl) (S.get i rfl hil fun ad ci => ?_))
    rw [Int.toNat_natCast]
    have hpi := hp _ (List.getElem_mem hil)
    refine ldS_mk (ci.at0 rfl) (rsmall_c _ (by omega) fun h4 f4 => ⟨_, rfl, ?_⟩)
    have M4 := M3.fr f4 id
    have hll := lowL_len L[i].t
    refine LoopV.go (fun n st h' => ∃ k : Nat, st = ((k + 1 : Nat) : Int) ∧ k ≤ (lowL L[i].t).length ∧ n = (lowL L[i].t).length - k ∧ Fr (fun _ => False) h h' ∧ SetM h' r (fun w => isPre L i w ∨ w <+: (lowL L[i].t).take k) (1 + 64 * i + k)) (lowL L[i].t).length ⟨0, rfl, by omega, rfl, f3.trans f4, ?_⟩ ?_
    · obtain ⟨ks, I, p, hl⟩ := M4
      refine ⟨ks, I, fun w => (p w).trans (Iff.intro .inl fun h => ?_), by omega⟩
      rcases h with h | h
      · exact h
      · rw [List.take_zero, List.prefix_nil] at h; exact .inl h
    rintro n - h5 ⟨k, rfl, hk', rfl, f5, M5⟩ Kn2 hK2
    unfold ref45_Automaton_States_l2
    rw [bs_size]
    refine ifD (fun e2 => ?_) fun e2 => ?_
    · have hkl : k < (lowL L[i].t).length := by omega
      refine slT _ (k + 1) rfl (by omega) ?_
      refine M5.put _ fun h6 f6 s6 M6 => ?_
      rw [wr (by omega) (by omega)]
      refine hK2 ((lowL L[i].t).length - (k + 1)) _ _ (by omega) ⟨k + 1, rfl, hkl, rfl, f5.tr f6 fun x hx hh => by omega, ?_⟩
      obtain ⟨ks, I, p, hl⟩ := M6
      refine ⟨ks, I, fun w => (p w).trans ?_, by omega⟩
      show (_ ∨ _) ∨ _ ↔ _ ∨ _
      rw [take_pre hkl]
      exact ⟨fun h => by rcases h with (h | h) | h; exact .inl h; exact .inr (.inl h); exact .inr (.inr h), fun h => by rcases h with h | h | h; exact .inl (.inl h); exact .inl (.inr h); exact .inr h⟩
    · have : k = (lowL L[i].t).length := by omega
      subst this
      rw [wr (by omega) (by omega)]
      refine hK (L.length - (i + 1)) _ _ (by omega) ⟨i + 1, rfl, hil, rfl, f5, ?_⟩
      obtain ⟨ks, I, p, hl⟩ := M5
      refine ⟨ks, I, fun w => (p w).trans ?_, by omega⟩
      rw [List.take_length]
      unfold isPre
      constructor
      · rintro ((h | ⟨j, hj, hji, hw⟩) | h)
        · exact .inl h
        · exact .inr ⟨j, hj, by omega, hw⟩
        · exact .inr ⟨i, hil, by omega, h⟩
      · rintro (h | ⟨j, hj, hji, hw⟩)
        · exact .inl (.inl h)
        · by_cases hj2 : j = i
          · subst hj2; exact .inr hw
          · exact .inl (.inr ⟨j, hj, by omega, hw⟩)
  · have : i = L.length := by omega
    subst this
    unfold ref45_Automaton_States_b3
    obtain ⟨ks, I, hc⟩ := M3.count nd hw
    refine len_mk Try.underlying57 I ⟨_, rfl, ?_⟩
    have e : (setV ks).length = ws.length := by unfold setV; rw [List.length_map, hc]
    rw [e]; exact hk h3 f3
theorem rStates_nil [Gh] {h : Heap} {Q : Value → Heap → Prop} (hk : Q (.int .i64 0) h) : CallT Try.prog fn_ref45_Automaton_States #[.pointer none] h Q := by
  apply ref45_Automaton_States_s
  unfold ref45_Automaton_States_v
  exact ifNN hk
/-- The reference's cursor. -/
def rCur (h : Heap) (c a : Addr) (text : Nm) : Prop := Own h c [.pointer (some a), .string (bs text)] T_intrusionref45_Cursor
theorem rBegin_c [Gh] (a : Addr) {h : Heap} {Q : Value → Heap → Prop} (hk : ∀ c h', Fr (fun _ => False) h h' → h.size ≤ c.block → rCur h' c a [] → Q (.pointer (some c)) h') : CallT Try.prog fn_ref45_Automaton_Begin #[.pointer (some a)] h Q := by
  apply ref45_Automaton_Begin_s
  unfold ref45_Automaton_Begin_v
  refine ifNS (al_mk (vs := [.pointer (some a), .string (bs [])]) fun c h1 f1 e1 o1 => hk c h1 f1 (by omega) o1)
theorem rAt_c [Gh] (C : rCur h c a text) {Q : Value → Heap → Prop} (hk : Q (.int .i64 text.length) h) : CallT Try.prog fn_ref45_Cursor_At #[.pointer (some c)] h Q := by
  apply ref45_Cursor_At_s
  unfold ref45_Cursor_At_v
  refine ifNS (nn_mk (ldS_mk (C.cells.at (j := 1) rfl) ?_))
  rw [bs_size]; exact hk
theorem rScan_c [Gh] (A : RefS N h a L) (C : rCur h c a text) (hN : N ≤ c.block) (hm : L.length ≤ 512) (hp : ∀ p ∈ L, p.t.length ≤ 64) (s : Nm) (hlen : text.length + s.length ≤ 10000) {Q : Value → Heap → Prop}
    (hk : ∀ h' r rc, Fr (fun x => x = c.block) h h' → rCur h' c a (text ++ s) → Row 2 hitV h' r rc (hAll L (text ++ s) text.length s.length) → (∀ x, InA r x → h.size ≤ x) → Q (.slice r (hAll L (text ++ s) text.length s.length).length rc) h') :
    CallT Try.prog fn_ref45_Cursor_Scan #[.pointer (some c), .string (bs s)] h Q := by
  apply ref45_Cursor_Scan_s
  unfold ref45_Cursor_Scan_v
  have cc := C.cells
  refine ifNS (nn_mk (ldS_mk (cc.at (j := 1) rfl) (nn_mk (ldS_mk (cc.at (j := 1) rfl) ⟨?_, nn_mk ?_⟩))))
  · rw [bs_size, bs_size]
    have : IntKind.max .i64 = 9223372036854775807 := by decide
    rw [this]; omega
  have ea : bs text ++ bs s = bs (text ++ s) := bs_append text s
  rw [ea]
  refine st1_own C 1 (by simp) rfl fun h1 f1 s1 o1 => ?_
  have o1 : Own h1 c [.pointer (some a), .string (bs (text ++ s))] T_intrusionref45_Cursor := o1
  have A1 := A.fr f1 fun x hx hh => by omega
  have z1 := f1.size
  obtain ⟨pq, pc, ca, S⟩ := A1.2 h1 (Fr.refl _ _)
  refine nn_mk (ldP_mk (o1.cells.at0 rfl) (nn_mk (ldL_mk (ca.at0 rfl) (nn_mk (ldS_mk (o1.cells.at (j := 1) rfl) ?_)))))
  rw [bs_size]
  have el : (text ++ s).length - text.length = s.length := by rw [List.length_append]; omega
  have hll : (text ++ s).length ≤ 10000 := by rw [List.length_append]; omega
  refine after_c (by omega) (fun p h => by have := hp p h; omega) (text ++ s) hll text.length (by rw [List.length_append]; omega) S fun r rc h2 f2 R2 hr => ?_
  rw [el] at R2 ⊢
  exact ⟨_, _, _, rfl, hk h2 r rc (f1.tr f2 fun _ _ h => h.elim) (o1.fr0 f2) R2 fun x hx => by have := hr x hx; omega⟩
end
end Go.Proofs.Ythnheldoklgceaa
