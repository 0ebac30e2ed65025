/-
  The program's link.
-/
import Derived.Test.YthnheldoklgceaaDoorAutO
import Derived.Test.YthnheldoklgceaaDoorQue
namespace Go.Proofs.YthnheldoklgceaaDoor
set_option linter.unusedSimpArgs false
set_option linter.unusedVariables false
set_option maxRecDepth 20000
open Go
open Go.IntKind (wrap)
def u16V (n : Nat) : List Value := [.int .u16 n]
theorem u16V_len (n : Nat) : (u16V n).length = 1 := rfl
theorem el_u16 : ElemT Tryd.prog T_sl_uint16 T_uint16 Tryd.t54 (.int .u16 0) := ⟨Tryd.underlying59, by kernel_rfl, by kernel_rfl, by kernel_rfl, by decide⟩
theorem kids_len (f : Nat → Nat) (n : Nat) : (kids f n).length ≤ n := by
  unfold kids
  rw [List.length_map]
  exact Nat.le_trans (List.length_filter_le ..) (by rw [List.length_range]; exact Nat.le_refl _)
theorem nodup_lt {l : List Nat} {n : Nat} (h : l.Nodup) (hl : ∀ x ∈ l, x < n) : l.length ≤ n := by
  induction n generalizing l with
  | zero =>
    cases l with
    | nil => exact Nat.le_refl _
    | cons a l => exact absurd (hl a List.mem_cons_self) (Nat.not_lt_zero _)
  | succ n ih =>
    have h1 := ih (h.erase n) fun x hx => by
      have h2 := (List.Nodup.mem_erase_iff h).1 hx
      have := hl x h2.2
      have := h2.1
      omega
    rw [List.length_erase] at h1
    split at h1 <;> omega
section
variable {o : Tag} {k : Nat} {h : Heap} {a : Addr} {sg : List St} {pq : Option Addr} {pn pc : Nat} {ws : List Nm} {E : Nm → List Nat}
/-- The inner loop: the 256 letters of a state. -/
theorem inner_c [Gh] {h0 : Heap} {o : Tag} {s0 : List St} {now b : Nat} {q : List Nat} {p : Option Addr} {cap : Nat} {ad : Addr} {ca : Nat}
    (hlen : s0.length ≤ 40000) (hq : q.length ≤ 40000) (A : AutF o k h a s0 pq pn pc) (hc : hcell h a = some (.slice (some ad) s0.length ca)) (hn : now < s0.length) (hb : b < s0.length) (hnb : now ≠ b)
    (hk0 : ∀ d, d < 256 → (gt s0 now).nx d < s0.length) (hkb : ∀ d, d < 256 → (gt s0 b).nx d < s0.length) (hu : ∀ c d, c < 256 → d < 256 → (gt s0 now).nx c ≠ 0 → (gt s0 now).nx c = (gt s0 now).nx d → c = d)
    (Qu : Que 1 u16V h p cap q) (hz : h0.size ≤ h.size) (hnew : ∀ x, InA p x → h0.size ≤ x) (ho : ∀ x, h0.size ≤ x → o x = k)
    {Q : Value → Heap → Prop} {Kn : (Option Addr) × Nat × Nat → Heap → Prop}
    (hk : ∀ h' sg p' cap', Fr (fun x => o x = k + 2 ∨ h0.size ≤ x) h h' → AutF o k h' a sg pq pn pc → Inn s0 sg now (gt s0 now).nx (gt s0 b).nx (gt s0 now).ou 256 → Que 1 u16V h' p' cap' (q ++ kids (gt s0 now).nx 256) → (∀ x, InA p' x → h0.size ≤ x) → Kn (p', (q ++ kids (gt s0 now).nx 256).length, cap') h') :
    automaton_Automaton_link_b4 (some a) p q.length cap (ad.add (now * 259)) (ad.add (b * 259)) Q Kn h := by
  unfold automaton_Automaton_link_b4
  obtain ⟨q', c', hc2, hcs⟩ := A.cell
  have e := hc.symm.trans hc2
  simp only [Option.some.injEq, Value.slice.injEq] at e
  obtain ⟨rfl, _, rfl⟩ := e
  obtain ⟨ad', hq', ci⟩ := hcs now hn
  cases hq'
  refine ldN_st ci ?_
  rw [gt_eq hn]
  generalize hf0 : (gt s0 now).nx = f0 at *
  refine LoopV.go (fun n st h' => ∃ (c : Nat) (sg : List St) (p' : Option Addr) (cap' : Nat), st.1 = p' ∧ st.2.1 = (q ++ kids f0 c).length ∧ st.2.2.1 = cap' ∧ st.2.2.2 = (c : Int) ∧ c ≤ 256 ∧ n = 256 - c ∧ Fr (fun x => o x = k + 2 ∨ h0.size ≤ x) h h' ∧ AutF o k h' a sg pq pn pc ∧ hcell h' a = some (.slice (some ad) s0.length ca) ∧ Inn s0 sg now f0 (gt s0 b).nx (gt s0 now).ou c ∧ Que 1 u16V h' p' cap' (q ++ kids f0 c) ∧ (∀ x, InA p' x → h0.size ≤ x)) 256
    ⟨0, s0, p, cap, rfl, by simp [kids], rfl, rfl, by omega, rfl, Fr.refl _ _, A, hc, ⟨rfl, fun _ => rfl, fun i => ?_, fun i d hd => ?_, fun d hd => absurd hd (Nat.not_lt_zero _), fun i hi => rfl⟩, by simpa [kids] using Qu, hnew⟩ ?_
  · by_cases h : i = now
    · rw [if_pos h, h]
    · rw [if_neg h]
  · rw [if_neg (fun hh : d < 0 ∧ f0 d = 0 => Nat.not_lt_zero _ hh.1)]
    by_cases h : i = now
    · rw [if_pos h, h, hf0]
    · rw [if_neg h]
  rintro n ⟨qa, qn, qc, t74⟩ h1 ⟨c, sg, p1, cap1, e1, e2, e3, e4, hc256, rfl, f1, A1, hc1, I1, Q1, hn1⟩ Kn5 hK
  dsimp only at e1 e2 e3 e4
  subst e1 e2 e3 e4
  dsimp only
  unfold automaton_Automaton_link_l5
  have z1 := f1.size
  have hl1 := I1.len
  refine ifD (fun e => ?_) fun e => ?_
  · have hc' : c < 256 := by omega
    refine idxA_mk c rfl hc' ⟨_, nxV_at f0 hc', _, rfl, ?_⟩
    obtain ⟨q2, c2, hc3, hcs1⟩ := A1.cell
    have e := hc1.symm.trans hc3
    simp only [Option.some.injEq, Value.slice.injEq] at e
    obtain ⟨rfl, _, rfl⟩ := e
    obtain ⟨adb, hab, cb⟩ := hcs1 b (by omega)
    cases hab
    have hbv : sg[b].nx c = (gt s0 b).nx c := by
      rw [gt_eq (by omega), I1.nx b c hc', if_neg hnb.symm]
    rw [Int.toNat_natCast]
    have hkb' := hkb c hc'
    have hk0' := hk0 c hc'
    have rd : hcell h1 ((ad.add (b * 259)).add (c * 1)) = some (.int .u16 ((gt s0 b).nx c : Nat)) := by
      rw [Nat.mul_one, ← hbv]
      exact cb.at (stV_nx _ hc')
    refine ifE (fun h0' => ?_) fun h0' => ?_
    · have h0' : f0 c = 0 := by omega
      refine idxA_mk c rfl hc' (ldI_mk rd (idxA_mk c rfl hc' ?_))
      rw [Nat.mul_one]
      refine A1.put hc3 rfl now (by omega) (j := c) (by omega) (v := .int .u16 ((gt s0 b).nx c : Nat)) rfl { gt sg now with nx := putN (gt sg now).nx c ((gt s0 b).nx c) } (by rw [gt_eq]; exact set_nx _ hc' _) (by rw [gt_eq]) (by rw [gt_eq]) (by rw [gt_eq]) fun h2 f2 A2 => ?_
      rw [wr (by omega) (by omega)]
      refine hK (256 - (c + 1)) _ _ (by omega) ⟨c + 1, _, qa, qc, rfl, ?_, rfl, rfl, by omega, rfl, f1.tr f2 fun x hx hh => .inl hh, A2, ?_, I1.no hc' (by omega) h0', ?_, hn1⟩
      · rw [kids_succ, if_pos h0']
      · exact f2.hcell hc1 fun hh => by have := A1.tag; omega
      · rw [kids_succ, if_pos h0']
        exact Q1.fr f2 fun x hx hh => by have := ho x (hn1 x hx); omega
    · have h0' : f0 c ≠ 0 := fun h => h0' (by omega)
      refine nn_mk (ldL_mk hc1 (idxA_mk c rfl hc' (ldI_mk rd (idxA_mk (f0 c) rfl (by omega) (nn_mk ?_)))))
      rw [Int.toNat_natCast]
      refine A1.put hc3 rfl (f0 c) (by omega) (j := 256) (by omega) (v := .int .u16 ((gt s0 b).nx c : Nat)) rfl { gt sg (f0 c) with fa := (gt s0 b).nx c } (by rw [gt_eq]; exact set_fa _ _) (by rw [gt_eq]) (by rw [gt_eq]) (by rw [gt_eq]) fun h2 f2 A2 => ?_
      have z2 := f2.size
      refine al_mk (vs := u16V (f0 c)) fun t106 h3 f3 e3 o3 => ?_
      have z3 := f3.size
      have Q3 := (Q1.fr f2 fun x hx hh => by have := ho x (hn1 x hx); omega).fr0 f3
      have hkl := kids_len f0 c
      refine Q3.app el_u16 Tryd.underlying59 (by intro k e; cases e) (by kernel_rfl) (by decide +kernel) u16V_len (fun _ => rfl) o3 1 (by rw [List.length_append]; omega) fun p4 cap4 h4 Q4 f4 hn4 => ⟨_, _, _, rfl, ?_⟩
      have A4 : AutF o k h4 a (sg.set (f0 c) { gt sg (f0 c) with fa := (gt s0 b).nx c }) pq pn pc := (A2.fr0 f3).fr f4 (fun x hx hh => by have := ho x (hn1 x hh); omega) (Old.refl _ _)
      rw [wr (by omega) (by omega)]
      refine hK (256 - (c + 1)) _ _ (by omega) ⟨c + 1, _, p4, cap4, rfl, ?_, rfl, rfl, by omega, rfl, ((f1.tr f2 fun x hx hh => .inl hh).tr f3 fun _ _ h => h.elim).tr f4 fun x hx hh => .inr (hn1 x hh), A4, ?_, I1.yes hc' (by omega) h0' fun d hd hf hh => ?_, ?_, fun x hx => ?_⟩
      · rw [kids_succ, if_neg h0', ← List.append_assoc]
      · have := A1.tag
        exact f4.hcell (f3.hcell (f2.hcell hc1 fun hh => by omega) id) fun hh => by have := ho _ (hn1 _ hh); omega
      · have := hu d c (by omega) hc' hf hh; omega
      · rw [kids_succ, if_neg h0', ← List.append_assoc]; exact Q4
      · rcases hn4 x hx with h | h
        · exact hn1 x h
        · omega
  · have : c = 256 := by omega
    subst this
    exact hk h1 sg qa qc f1 A1 I1 Q1 hn1
theorem link_c [Gh] (A : AutF o k h a sg pq pn pc) (T : Trie sg ws E) (hN : ws.length ≤ 40000) {Q : Value → Heap → Prop}
    (hk : ∀ o' h' sg', Old h o o' → (∀ x, h.size ≤ x → o' x = k) → Fr (fun x => o x = k + 2) h h' → AutF o' k h' a sg' pq pn pc → Done sg' ws E → Q (.tuple #[]) h') :
    CallT Tryd.prog fn_automaton_Automaton_link #[.pointer (some a)] h Q := by
  apply automaton_Automaton_link_s
  unfold automaton_Automaton_link_v
  have hlen := T.len
  have h0 := T.lt T.z
  have hza := A.lt
  have tg := A.tag
  have hO : Old h o (upT o h.size k) := Old.up (Nat.le_refl _)
  have hup : ∀ x, h.size ≤ x → upT o h.size k x = k := fun x hx => upT_ge hx
  have A' : AutF (upT o h.size k) k h a sg pq pn pc := A.fr (Fr.refl _ _) (fun _ _ h => False.elim h) hO
  have hlo : ∀ x, x < h.size → upT o h.size k x = o x := fun x hx => upT_lt hx
  clear A
  generalize upT o h.size k = o1 at *
  obtain ⟨q, ca, hc, hcs⟩ := A'.cell
  obtain ⟨ad, had, ci⟩ := hcs 0 h0
  subst had
  refine nn_mk (ldL_mk hc (idxA_mk 0 rfl h0 (nn_mk (ldN_st ci ?_))))
  rw [gt_eq h0]
  have St0 := T.start
  have hk0 : ∀ d, d < 256 → (gt sg 0).nx d < sg.length := fun d hd => by
    by_cases hz : (gt sg 0).nx d = 0
    · rw [hz]; exact h0
    · exact (St0.apart _ (mem_kids.2 ⟨d, hd, hz, rfl⟩)).2
  generalize hf0 : (gt sg 0).nx = f0 at *
  -- the root's children
  refine LoopV.go (fun n st h' => ∃ (c : Nat) (p' : Option Addr) (cap' : Nat), st.1 = p' ∧ st.2.1 = (kids f0 c).length ∧ st.2.2.1 = cap' ∧ st.2.2.2 = (c : Int) ∧ c ≤ 256 ∧ n = 256 - c ∧ Fr (fun _ => False) h h' ∧ Que 1 u16V h' p' cap' (kids f0 c) ∧ (∀ x, InA p' x → h.size ≤ x)) 256
    ⟨0, none, 0, rfl, rfl, rfl, rfl, by omega, rfl, Fr.refl _ _, Que.nil, fun x hx => (notInA hx).elim⟩ ?_
  rintro n ⟨qa, qn, qc, t17⟩ h1 ⟨c, p1, cap1, e1, e2, e3, e4, hc256, rfl, f1, Q1, hn1⟩ Kn1 hK
  dsimp only at e1 e2 e3 e4
  subst e1 e2 e3 e4
  dsimp only
  unfold automaton_Automaton_link_l1
  have z1 := f1.size
  refine ifD (fun e => ?_) fun e => ?_
  · have hc' : c < 256 := by omega
    refine idxA_mk c rfl hc' ⟨_, nxV_at f0 hc', _, rfl, ?_⟩
    have hk0' := hk0 c hc'
    rw [Int.toNat_natCast]
    refine ifNe (fun hh => ?_) fun hh => ?_
    · have hh : f0 c ≠ 0 := fun h => hh (by rw [h]; rfl)
      refine al_mk (vs := u16V (f0 c)) fun t24 h2 f2 e2 o2 => ?_
      have z2 := f2.size
      have hkl := kids_len f0 c
      refine (Q1.fr0 f2).app el_u16 Tryd.underlying59 (by intro k e; cases e) (by kernel_rfl) (by decide +kernel) u16V_len (fun _ => rfl) o2 1 (by omega) fun p4 cap4 h4 Q4 f4 hn4 => ⟨_, _, _, rfl, ?_⟩
      rw [wr (by omega) (by omega)]
      refine hK (256 - (c + 1)) _ _ (by omega) ⟨c + 1, p4, cap4, rfl, ?_, rfl, rfl, by omega, rfl, (f1.trans f2).tr f4 fun x hx hh => by have := hn1 x hh; omega, ?_, fun x hx => ?_⟩
      · rw [kids_succ, if_neg hh]
      · rw [kids_succ, if_neg hh]; exact Q4
      · rcases hn4 x hx with h | h
        · exact hn1 x h
        · omega
    · have hh : f0 c = 0 := by omega
      rw [wr (by omega) (by omega)]
      refine hK (256 - (c + 1)) _ _ (by omega) ⟨c + 1, qa, qc, rfl, ?_, rfl, rfl, by omega, rfl, f1, ?_, hn1⟩
      · rw [kids_succ, if_pos hh]
      · rw [kids_succ, if_pos hh]; exact Q1
  have : c = 256 := by omega
  subst this
  clear e hK
  unfold automaton_Automaton_link_b2
  have hend : ∀ h' sg', Fr (fun x => o1 x = k + 2 ∨ h.size ≤ x) h h' → AutF o1 k h' a sg' pq pn pc → Done sg' ws E → Q (.tuple #[]) h' := fun h' sg' f A D =>
    hk o1 h' sg' hO hup ⟨f.size, fun x hx hs => f.same x hx fun hh => hh.elim (fun e => hs (by rw [← hlo x hx]; exact e)) fun e => absurd hx (by omega)⟩ A D
  have hbq := kids_len f0 256
  -- the main loop
  refine LoopV.go (fun n st h' => ∃ (Ds Qs : List Nat) (sg' : List St) (p' : Option Addr) (cap' : Nat), st.1 = p' ∧ st.2.1 = Qs.length ∧ st.2.2 = cap' ∧ Ds.Nodup ∧ (∀ i ∈ Ds, i < sg.length) ∧ sg'.length = sg.length ∧ n = sg.length - Ds.length ∧ Fr (fun x => o1 x = k + 2 ∨ h.size ≤ x) h h' ∧ AutF o1 k h' a sg' pq pn pc ∧ Lq sg' ws E (· ∈ Ds) Qs ∧ Que 1 u16V h' p' cap' Qs ∧ (∀ x, InA p' x → h.size ≤ x)) (sg.length - 1)
    ⟨[0], kids f0 256, sg, qa, qc, rfl, rfl, rfl, by simp, fun i hi => by rw [List.mem_singleton.1 hi]; exact h0, rfl, rfl, f1.mono fun _ h => h.elim, A'.fr0 f1, St0, Q1, hn1⟩ ?_
  rintro n ⟨qa, qn, qc⟩ h2 ⟨Ds, Qs, s2, p2, cap2, e1, e2, e3, hdn, hdl, hl2, rfl, f2, A2, L2, Q2, hn2⟩ Kn3 hK
  dsimp only at e1 e2 e3
  subst e1 e2 e3
  dsimp only
  unfold automaton_Automaton_link_l3
  have z2 := f2.size
  refine ifD (fun e => ?_) fun e => ?_
  · cases Qs with
    | nil => exact absurd e (by simp)
    | cons now q' =>
      have hap := L2.apart now List.mem_cons_self
      have hnow := hap.2
      obtain ⟨w, hw⟩ := L2.word hnow
      have hb := L2.back hw hnow
      rw [gt_eq hnow] at hb
      have hbl := L2.lt hb.1
      have hol := L2.ou _ hbl _ hb.1 hb.2
      have hQl : (now :: q').length ≤ sg.length := nodup_lt L2.qnd fun x hx => by have := (L2.apart x hx).2; omega
      rw [List.length_cons] at hQl
      obtain ⟨q3, c3, hc3, hcs3⟩ := A2.cell
      obtain ⟨ad3, hq3, cn⟩ := hcs3 now hnow
      subst hq3
      have hne : now ≠ (gt s2 now).fa := fun h => hap.1 (by rw [h]; exact hb.2)
      refine Q2.idx u16V_len (by decide) 0 rfl (by simp) fun ad4 c4 => ?_
      refine ldI_mk (c4.at0 rfl) ?_
      refine Q2.pop u16V_len (by decide) fun p5 cap5 hi5 Q5 => ?_
      have hgn : s2[now] = gt s2 now := gt_eq hnow
      have hQl5 : q'.length ≤ 40000 := by omega
      have hbe : s2[now].fa = (gt s2 now).fa := by rw [hgn]
      have hwne : w ≠ [] := fun h => by
        subst h
        have := idx_uniq L2.nd hw L2.z
        subst this; exact hap.1 L2.root
      -- with its out set
      have fin : ∀ h4 o', Fr (fun x => o1 x = k + 2 ∨ h.size ≤ x) h2 h4 → (∀ x, x < h2.size → h.size ≤ x → h4[x]? = h2[x]?) → hcell h4 a = some (.slice (some ad3) s2.length c3) → AutF o1 k h4 a (s2.set now { gt s2 now with ou := o' }) pq pn pc → ws[o']? = some (outW ws E w) →
          automaton_Automaton_link_b4 (some a) p5 q'.length cap5 (ad3.add (now * 259)) (ad3.add ((gt s2 now).fa * 259)) Q Kn3 h4 := fun h4 o' f4 hs4 hc4 A4 ho' => by
        have z4 := f4.size
        have f40 : Fr (fun x => x < h.size) h2 h4 := ⟨z4, fun x hx hs => hs4 x hx (by omega)⟩
        have g : ∀ i, gt (s2.set now { gt s2 now with ou := o' }) i = if now = i then { gt s2 now with ou := o' } else gt s2 i := gt_set hnow _
        have gn : gt (s2.set now { gt s2 now with ou := o' }) now = { gt s2 now with ou := o' } := by rw [g, if_pos rfl]
        have gb : gt (s2.set now { gt s2 now with ou := o' }) (gt s2 now).fa = gt s2 (gt s2 now).fa := by rw [g, if_neg hne]
        have ls : (s2.set now { gt s2 now with ou := o' }).length = s2.length := List.length_set
        have yes : ∀ c : UInt8, (gt s2 now).nx c.toNat ≠ 0 → ws[(gt s2 now).nx c.toNat]? = some (w ++ [c]) := fun c hc => by
          have := L2.yes now hnow w c hw hap.1 (by rw [hgn]; exact hc)
          rw [hgn] at this; exact this
        refine inner_c (h0 := h) (by rw [ls]; omega) hQl5 A4 (by rw [ls]; exact hc4) (by rw [ls]; exact hnow) (by rw [ls]; exact hbl) hne (fun d hd => ?_) (fun d hd => ?_) (fun c d hc hd hz he => ?_) (Q5.fr f40 fun x hx hh => by have := hn2 x (hi5 x hx); omega) (by omega) (fun x hx => hn2 x (hi5 x hx)) hup fun h6 s6 p6 cap6 f6 A6 I6 Q6 hn6 => ?_
        · rw [gn, ls]
          obtain ⟨c, rfl⟩ := u8of hd
          by_cases hz : (gt s2 now).nx c.toNat = 0
          · show (gt s2 now).nx _ < _; rw [hz]; omega
          · exact L2.lt (yes c hz)
        · rw [gb, ls]
          obtain ⟨c, rfl⟩ := u8of hd
          have := L2.dn _ hbl _ c hb.1 hb.2
          rw [gt_eq hbl] at this
          exact L2.lt this
        · rw [gn] at hz he
          obtain ⟨x, rfl⟩ := u8of hc
          obtain ⟨y, rfl⟩ := u8of hd
          have hz : (gt s2 now).nx x.toNat ≠ 0 := hz
          have he : (gt s2 now).nx x.toNat = (gt s2 now).nx y.toNat := he
          have e1 := yes x hz
          have e2 := yes y (by rw [← he]; exact hz)
          rw [he, e2] at e1
          have := (List.append_inj' (Option.some.inj e1) rfl).2
          rw [(List.cons.inj this).1]
        · rw [gn, gb] at I6
          have I : Inn s2 s6 now (gt s2 now).nx (gt s2 (gt s2 now).fa).nx o' 256 := by
            refine ⟨by rw [I6.len, ls], fun i => ?_, fun i => ?_, fun i d hd => ?_, I6.fa1, fun i hi => ?_⟩
            · rw [I6.en, g]; split
              · rename_i hh; rw [← hh]
              · rfl
            · rw [I6.ou]; split
              · rfl
              · rename_i hh; rw [g, if_neg (fun h => hh h.symm)]
            · rw [I6.nx i d hd]; split
              · rfl
              · rename_i hh; rw [g, if_neg (fun h => hh h.symm)]
            · rw [I6.fa0 i hi, g]; split
              · rename_i hh; rw [← hh]
              · rfl
          have L6 := L2.pop hw ho' I
          rw [gn] at Q6
          have e6 : (gt (s2.set now { gt s2 now with ou := o' }) now).nx = (gt s2 now).nx := by rw [gn]
          rw [e6]
          have hdn6 : (now :: Ds).Nodup := List.nodup_cons.2 ⟨hap.1, hdn⟩
          have hdl6 : ∀ i ∈ now :: Ds, i < sg.length := fun i hi => by
            rcases List.mem_cons.1 hi with h | h
            · omega
            · exact hdl i h
          have hdle := nodup_lt hdn6 hdl6
          rw [List.length_cons] at hdle
          have eD : (fun i => i ∈ Ds ∨ i = now) = (fun i => i ∈ now :: Ds) := by
            funext i; rw [List.mem_cons]; exact propext or_comm
          rw [eD] at L6
          exact hK (sg.length - (now :: Ds).length) _ _ (by rw [List.length_cons]; omega) ⟨now :: Ds, _, s6, p6, cap6, rfl, rfl, rfl, hdn6, hdl6, by rw [I.len]; exact hl2, rfl, (f2.trans (f4.mono fun _ h => h)).tr f6 fun x hx hh => hh, A6, L6, Q6, hn6⟩
      refine nn_mk (ldL_mk hc3 (idxA_mk now rfl hnow (nn_mk (nn_mk (ldL_mk hc3 ?_)))))
      rw [Int.toNat_natCast]
      have efa : (stV s2[now])[256]? = some (.int .u16 ((gt s2 now).fa : Nat)) := by rw [← hbe]; exact stV_fa _
      refine ldI_mk (cn.at efa) (idxA_mk _ rfl hbl (nn_mk (ldI_mk (cn.at efa) ?_)))
      rw [Int.toNat_natCast]
      have nqt : ∀ x, h.size ≤ x → o1 x ≠ k + 2 := fun x hx => by have := hup x hx; omega
      refine A2.put hc3 rfl now hnow (j := 257) (by omega) (v := .int .u16 ((gt s2 now).fa : Nat)) rfl { gt s2 now with ou := (gt s2 now).fa } (by rw [hgn]; exact set_ou _ _) (by rw [hgn]) (by rw [hgn]) (by rw [hgn]) fun h3 f3 A3 => ?_
      have z3 := f3.size
      have hca3 := f3.hcell hc3 fun hh => by have := A2.tag; omega
      obtain ⟨q7, c7, hc7, hcs7⟩ := A3.cell
      have e7 := hca3.symm.trans hc7
      simp only [Option.some.injEq, Value.slice.injEq] at e7
      obtain ⟨rfl, _, rfl⟩ := e7
      obtain ⟨ad7, had7, cb⟩ := hcs7 (gt s2 now).fa (by rw [List.length_set]; exact hbl)
      cases had7
      rw [List.getElem_set_ne hne] at cb
      refine ldL_mk (cb.at (stV_en _)) ?_
      have hen := L2.en _ hbl _ hb.1
      refine ifE (fun h0e => ?_) fun h0e => ?_
      · refine ldI_mk (cb.at (stV_ou _)) ?_
        refine A3.put hc7 rfl now (by rw [List.length_set]; exact hnow) (j := 257) (by omega) (v := .int .u16 (s2[(gt s2 now).fa].ou : Nat)) rfl { gt s2 now with ou := s2[(gt s2 now).fa].ou } (by rw [List.getElem_set_self]; exact set_ou _ _) (by rw [List.getElem_set_self]) (by rw [List.getElem_set_self]) (by rw [List.getElem_set_self]) fun h4 f4 A4 => ?_
        rw [List.set_set] at A4
        refine fin h4 _ ((f3.mono fun _ h => .inl h).trans (f4.mono fun _ h => .inl h)) (fun x hx hh => ?_) (f4.hcell hca3 fun hh => by have := A2.tag; omega) A4 ?_
        · rw [f4.same x (by omega) (nqt x hh), f3.same x hx (nqt x hh)]
        · rw [outW_ne E hwne, if_neg (by rw [← hen]; intro h; apply h; exact List.length_eq_zero_iff.1 (by omega))]
          exact hol
      · refine fin h3 _ (f3.mono fun _ h => .inl h) (fun x hx hh => f3.same x hx (nqt x hh)) hca3 A3 ?_
        rw [outW_ne E hwne, if_pos (by rw [← hen]; intro h; rw [h] at h0e; exact h0e rfl)]
        exact hb.1
  · have : Qs = [] := List.length_eq_zero_iff.1 (by omega)
    subst this
    exact hend h2 s2 f2 A2 L2.done
end
end Go.Proofs.YthnheldoklgceaaDoor
