/-
  The law FlowtableEvicts.
-/
import Derived.Test.YtbmifkjdjekenaaFtL
namespace Go.Proofs.Ytbmifkjdjekenaa
set_option linter.unusedSimpArgs false
set_option linter.unusedVariables false
set_option maxRecDepth 20000
open Go
open Go.IntKind (wrap)
def numV (vv : List Int) : List Value := vv.map fun n => .int .i64 n
/-- What is known of a table into which flows were only opened. -/
structure Ev (st : St) (n i : Int) (vv : List Int) : Prop where
  wf : Wf st
  most : st.most = n
  used : st.used ≤ i
  time : st.time ≤ i
  len : vv.length = 64
  at_ : ∀ e ∈ st.L, vv[e.id.toNat]? = some e.value
  f : ∀ e ∈ st.L, ∃ k : Int, k ≤ i ∧ e.f = flowF k
  ord : ∀ e ∈ st.L, ∀ d ∈ st.L, e.id < d.id → e.last ≤ d.last
  last : ∀ e ∈ st.L, e.last ≤ i
theorem Ev.next {st : St} {n i : Int} {vv : List Int} (E : Ev st n i vv) {j : Int} (h : i ≤ j) : Ev st n j vv :=
  ⟨E.wf, E.most, by have := E.used; omega, by have := E.time; omega, E.len, E.at_, fun e he => by obtain ⟨k, h1, h2⟩ := E.f e he; exact ⟨k, by omega, h2⟩, E.ord, fun e he => by have := E.last e he; omega⟩
theorem Ev.add {st : St} {n i v : Int} {vv : List Int} (E : Ev st n i vv) (hi : 0 ≤ i ∧ i ≤ 60) {M : List FEn} (hM : M.Sublist st.L) (w : Wf (addE st i v (flowF (i + 1)) M)) : Ev (addE st i v (flowF (i + 1)) M) n (i + 1) (vv.set (st.used + 1).toNat v) := by
  have hu := E.used
  have hu0 := E.wf.used
  have hs : ∀ e ∈ M, e ∈ st.L := fun e he => hM.subset he
  refine ⟨w, E.most, by show st.used + 1 ≤ _; omega, by show i ≤ _; omega, by rw [List.length_set]; exact E.len, fun e he => ?_, fun e he => ?_, fun e he d hd h => ?_, fun e he => ?_⟩
  · rcases List.mem_append.1 he with he | he
    · have := E.wf.ids e (hs e he)
      rw [List.getElem?_set_ne (by omega)]
      exact E.at_ e (hs e he)
    · rw [List.mem_singleton.1 he]
      show (vv.set (st.used + 1).toNat v)[(st.used + 1).toNat]? = some v
      rw [List.getElem?_set_self (by rw [E.len]; omega)]
  · rcases List.mem_append.1 he with he | he
    · obtain ⟨k, h1, h2⟩ := E.f e (hs e he); exact ⟨k, by omega, h2⟩
    · rw [List.mem_singleton.1 he]; exact ⟨i + 1, by omega, rfl⟩
  · rcases List.mem_append.1 he with he | he <;> rcases List.mem_append.1 hd with hd | hd
    · exact E.ord e (hs e he) d (hs d hd) h
    · rw [List.mem_singleton.1 hd]; exact E.last e (hs e he)
    · rw [List.mem_singleton.1 he] at h
      have := (E.wf.ids d (hs d hd)).2
      have h : st.used + 1 < d.id := h
      omega
    · rw [List.mem_singleton.1 he, List.mem_singleton.1 hd]; exact Int.le_refl _
  · rcases List.mem_append.1 he with he | he
    · have := E.last e (hs e he); omega
    · rw [List.mem_singleton.1 he]; show i ≤ _; omega
theorem Ev.none {st : St} {n i : Int} {vv : List Int} (E : Ev st n i vv) : (findS st.L (flowF (i + 1))).2.2 = false := by
  rw [find_none]
  intro e he hp
  obtain ⟨k, hk, hf⟩ := E.f e he
  rw [hf] at hp
  rcases pair_inj hp with h | h
  · have : i + 1 = k := congrArg Fl.sport h
    omega
  · have : (1 : Int) = 2 := congrArg (fun f : Fl => f.src.lo) h
    omega
theorem rdv [Gh] {h : Heap} {a : Addr} {vv : List Int} {T : TypeId} (o : Own h a (numV vv) T) (hl : vv.length = 64) {id x : Int} (h1 : 1 ≤ id) (h2 : id ≤ 63) (hv : vv[id.toNat]? = some x) {K : Int → Prop} (hk : K x) : idxA id 64 (ldI h (Addr.add a (id.toNat * 1)) .i64 K) := by
  obtain ⟨k, rfl⟩ : ∃ k : Nat, id = k := ⟨id.toNat, by omega⟩
  rw [Int.toNat_natCast] at *
  refine idxA_mk k rfl (by omega) ?_
  rw [Nat.mul_one]
  refine ldI_mk (o.cells.at (j := k) ?_) hk
  unfold numV
  rw [List.getElem?_map, hv]; rfl
set_option maxHeartbeats 1000000 in
theorem evicts_l1 [Gh] (w : Sl Int) {h h4 : Heap} (ow : SlOk 1 (fun n : Int => [Value.int .u8 n]) (kOk .u8) h w) (hn : w.xs.length ≤ 60) {N : Int} (hN : 1 ≤ N ∧ N ≤ 8) {t t7 : Addr} {r1 r2 i : Nat} {st : St} {vv : List Int} {ok : Nat → Prop} {S : List PE} (hlt : i < w.xs.length)
    (f4 : Fr (fun _ => False) h h4) (E : Ev st N i vv) (R4 : TabF ok h4 t r1 r2 st S) (hok : ∀ b, ok b → h.size ≤ b ∧ b < h4.size ∧ b ≠ t7.block) (o4 : Own h4 t7 (numV vv) T_64_int) (h7s : h.size ≤ t7.block) {Q : Value → Heap → Prop} {Kn : Int × Int → Heap → Prop}
    (hKn : ∀ st' vv' ok' S' h', Fr (fun _ => False) h h' → Ev st' N ((i : Int) + 1) vv' → TabF ok' h' t r1 r2 st' S' → (∀ b, ok' b → h.size ≤ b ∧ b < h'.size ∧ b ≠ t7.block) → Own h' t7 (numV vv') T_64_int → Kn (st'.used, (i : Int) + 1) h') :
    law22_FlowtableEvicts_l1 w.p w.xs.length w.cap N (some t) t7 Q st.used (i : Int) h4 Kn := by
  have l7 := o4.lt
  have z4 := f4.size
  unfold law22_FlowtableEvicts_l1
  rw [if_pos (by simp; omega)]
  refine idx_sl (SlOk.fr0 fr_c f4 ow) i rfl hlt fun ad cd okd => ?_
  rw [Int.toNat_natCast]
  refine ldI_mk (cd.at0 rfl) ⟨by decide, ?_⟩
  obtain ⟨d0, d1⟩ := wf8 okd
  generalize w.xs[i] = d at *
  have ed : Int.tmod (wrap .i64 d) 4 = d % 4 := by rw [wr (by omega) (by omega), Int.tmod_eq_emod_of_nonneg (by omega)]
  rw [ed]
  have hv4 : 0 ≤ d % 4 ∧ d % 4 ≤ 3 := by omega
  generalize d % 4 = v at *
  refine ids_c R4 E.wf fun pb cb h5 f5 Rb hpb => ⟨_, _, _, rfl, ?_⟩
  rw [wr (x := (i : Int) + 1) (by omega) (by omega)]
  refine flow_c _ fun h6 f6 => ⟨_, _, _, _, _, _, _, _, _, rfl, ?_⟩
  have z5 := f5.size
  have z6 := f6.size
  have F46 := f5.trans f6
  have R6 := (R4.fr0 F46).to (ok' := fun b => ok b ∨ h6.size ≤ b) (.inl R4.okt) (.inl R4.okr.1) (.inl R4.okr.2) (fun c hc => .inl (R4.cp c hc).2.2.2)
  have hi60 : 0 ≤ (i : Int) ∧ (i : Int) ≤ 60 := by omega
  have hu := E.used
  have hu0 := E.wf.used
  refine open_c R6 E.wf (fun b hb => .inr hb) i (flowF ((i : Int) + 1)) v fun a b c s h7 S7 o f7 R7 => ⟨_, _, _, rfl, ?_⟩
  have z7 := f7.size
  have Rb7 := (Rb.fr0 f6).fr f7 fun b hb h => by
    have h1 := hpb b hb
    have h2 := Rb.lt hb
    rcases h with h | h
    · have := (hok b h).2.1; omega
    · omega
  have o7 := (o4.fr0 F46).fr f7 fun h => by
    rcases h with h | h
    · exact (hok _ h).2.2 rfl
    · omega
  have F7 : Fr (fun _ => False) h h7 := (f4.trans F46).tr f7 fun b hb hi => by
    rcases hi with h | h
    · have := (hok b h).1; omega
    · omega
  have ok7 : ∀ b, (ok b ∨ h6.size ≤ b) ∧ b < h7.size → h.size ≤ b ∧ b < h7.size ∧ b ≠ t7.block := fun b hb => by
    rcases hb.1 with h | h
    · have := hok b h; omega
    · omega
  have R7' := R7.to (ok' := fun b => (ok b ∨ h6.size ≤ b) ∧ b < h7.size) ⟨R7.okt, R7.own.lt⟩ ⟨R7.okr.1, R7.m1.lt⟩ ⟨R7.okr.2, R7.m2.lt⟩ fun c hc => ⟨(R7.cp c hc).2.2.2, (R7.cts c hc).lt⟩
  have w7 := o.wf E.wf (by omega)
  have hl := E.wf.len64
  have hlm : (st.L.map (·.id)).length = st.L.length := List.length_map ..
  have idr : ∀ k (hk : k < (st.L.map (·.id)).length), ∃ e ∈ st.L, (st.L.map (·.id))[k] = e.id ∧ 1 ≤ e.id ∧ e.id ≤ 60 := fun k hk => by
    rw [List.getElem_map]
    have := E.wf.ids _ (List.getElem_mem (by simpa using hk))
    exact ⟨_, List.getElem_mem (by simpa using hk), rfl, this.1, by omega⟩
  -- the loop over the numbers that were there
  have l2 : law22_FlowtableEvicts_b3 w.p w.xs.length w.cap N (some t) t7 st.used (i : Int) v pb (st.L.map (·.id)).length cb a b c Q Kn h7 → (if (decide (b < 0)) = true then (Q (.bool false) h7) else (if (decide (b > 60)) = true then (Q (.bool false) h7) else (LoopV (fun (s : Int) h Kn2 => law22_FlowtableEvicts_l2 w.p w.xs.length w.cap N (some t) t7 st.used (i : Int) v pb (st.L.map (·.id)).length cb a b c Q Kn s h Kn2) 0 h7))) := by
    intro hb3
    have hb : 0 ≤ b ∧ b ≤ 60 := by
      cases o with
      | evict x h1 h2 h3 h4 h5 h6 => have := E.wf.ids x h5.1; omega
      | _ => omega
    rw [if_neg (by simp; omega), if_neg (by simp; omega)]
    refine LoopV.mk (fun s h' => ∃ (k : Nat), s = (k : Int) ∧ k ≤ st.L.length ∧ h' = h7) (fun s _ => st.L.length - s.toNat) ⟨0, rfl, by omega, rfl⟩ ?_
    rintro - h' ⟨k, rfl, hkl, hh⟩
    subst h'
    unfold law22_FlowtableEvicts_l2
    refine ifD (fun e => ?_) fun e => hb3
    have hkk : k < (st.L.map (·.id)).length := by omega
    obtain ⟨e', _, h1, h2, h3⟩ := idr k hkk
    refine Rb7.idx intV_len (by omega) k rfl hkk fun ad c => ?_
    rw [h1] at c
    rw [Int.toNat_natCast]
    refine ldI_mk (c.at0 rfl) ?_
    rw [if_neg (by simp; omega)]
    refine Rb7.idx intV_len (by omega) k rfl hkk fun ad c => ?_
    rw [h1] at c
    refine ldI_mk (c.at0 rfl) ?_
    rw [if_neg (by simp; omega), wr (by omega) (by omega)]
    exact ⟨⟨k + 1, rfl, by omega, rfl⟩, by omega⟩
  refine l2 ?_
  clear l2
  unfold law22_FlowtableEvicts_b3
  have good : badB (flowF ((i : Int) + 1)) v = false := by
    unfold badB flowF; dsimp only; rw [decide_eq_false_iff_not]; omega
  have early : lateB st i = false := by
    have := E.time
    unfold lateB; rw [decide_eq_false (by omega), decide_eq_false (by omega)]; rfl
  -- what follows a flow that was added
  have addD : ∀ (ev : Int) (M : List FEn), M.Sublist st.L → Wf (addE st i v (flowF ((i : Int) + 1)) M) → TabF (fun b => (ok b ∨ h6.size ≤ b) ∧ b < h7.size) h7 t r1 r2 (addE st i v (flowF ((i : Int) + 1)) M) S7 →
      ((ev ≠ 0) ↔ ((st.L.length : Int) = N)) → (ev ≠ 0 → ∃ x, IsLeast st.L x ∧ x.id = ev) →
      law22_FlowtableEvicts_b6 w.p w.xs.length w.cap N (some t) t7 st.used (i : Int) v pb (st.L.map (·.id)).length cb (st.used + 1) ev 0 Q Kn h7 := by
    intro ev M hM w8 R8 hev hleast
    have E8 := E.add (v := v) hi60 hM w8
    unfold law22_FlowtableEvicts_b6
    rw [if_neg (by decide), if_neg (by simp; omega), if_neg (by simp; omega)]
    refine ids_c R8 w8 fun p9 c9 h9 f9 R9 _ => ⟨_, _, _, rfl, ?_⟩
    have hlen8 : (((addE st i v (flowF ((i : Int) + 1)) M).L.map (·.id)).length : Int) ≤ N := by rw [List.length_map]; have := w8.len; have := E8.most; omega
    rw [if_neg (by rw [decide_eq_true_eq]; omega)]
    have hbb : ((ev != 0) == (((st.L.map (·.id)).length : Int) == N)) = true := by
      rw [beq_iff_eq, Bool.eq_iff_iff, bne_iff_ne, beq_iff_eq, hlm]; exact hev
    rw [hbb, if_neg (by decide)]
    have Rb9 := Rb7.fr0 f9
    have o9 := o7.fr0 f9
    have z9 := f9.size
    refine LoopV.mk (fun s h' => ∃ (k : Nat), s = (k : Int) ∧ k ≤ st.L.length ∧ h' = h9) (fun s _ => st.L.length - s.toNat) ⟨0, rfl, by omega, rfl⟩ ?_
    rintro - h' ⟨k, rfl, hkl, hh⟩
    subst h'
    unfold law22_FlowtableEvicts_l7
    refine ifD (fun e => ?_) fun e => ?_
    · have hkk : k < (st.L.map (·.id)).length := by omega
      obtain ⟨y, hy, h1, h2, h3⟩ := idr k hkk
      have go : (∃ (k_1 : Nat), wrap .i64 ((k : Int) + 1) = (k_1 : Int) ∧ k_1 ≤ st.L.length ∧ h9 = h9) ∧ st.L.length - (wrap .i64 ((k : Int) + 1)).toNat < st.L.length - (k : Int).toNat := by
        rw [wr (by omega) (by omega)]; exact ⟨⟨k + 1, rfl, by omega, rfl⟩, by omega⟩
      refine ifNe (fun e2 => ?_) fun e2 => go
      obtain ⟨x, hx, rfl⟩ := hleast e2
      have hxi := E.wf.ids x hx.1
      have ix : ∀ {K : Int → Prop}, K y.id → idxA (k : Int) (st.L.map (·.id)).length (nn pb fun t => ldI h9 (Addr.add t (k * 1)) .i64 K) := fun {K} hK => by
        refine Rb9.idx intV_len (by omega) k rfl hkk fun ad c => ?_
        rw [h1] at c
        exact ldI_mk (c.at0 rfl) hK
      have hb := hx.2 y hy
      unfold befE at hb
      rw [decide_eq_false_iff_not] at hb
      rw [Int.toNat_natCast]
      refine ix (rdv o9 E.len h2 (by omega) (E.at_ y hy) (rdv o9 E.len hxi.1 (by omega) (E.at_ x hx.1) ?_))
      rw [if_neg (by simp; omega)]
      refine ix (rdv o9 E.len h2 (by omega) (E.at_ y hy) (rdv o9 E.len hxi.1 (by omega) (E.at_ x hx.1) ?_))
      refine ifE (fun e3 => ?_) fun e3 => go
      refine ix ?_
      refine ifD (fun e4 => ?_) fun e4 => go
      have := E.ord y hy x hx.1 e4
      omega
    · unfold law22_FlowtableEvicts_b8
      refine idxA_mk (st.used + 1).toNat (by omega) (by omega) ?_
      rw [Nat.mul_one]
      refine st1_own o9 (st.used + 1).toNat (by unfold numV; rw [List.length_map, E.len]; omega) rfl fun h10 f10 s10 o10 => ?_
      have o10 : Own h10 t7 (numV (vv.set (st.used + 1).toNat v)) T_64_int := by
        have : numV (vv.set (st.used + 1).toNat v) = (numV vv).set (st.used + 1).toNat (.int .i64 v) := by unfold numV; rw [List.map_set]
        rw [this]; exact o10
      rw [wr (by omega) (by omega)]
      refine hKn _ _ _ S7 h10 ((F7.trans f9).tr f10 fun b hb hi => by omega) E8 ((R8.fr0 f9).fr f10 fun b hb h1 h2 => ?_) (fun b hb => ?_) o10
      · subst h1; exact (ok7 _ h2).2.2 rfl
      · have := ok7 b hb; omega
  cases o with
  | late h => rw [early] at h; cases h
  | bad h1 h2 => rw [good] at h2; cases h2
  | exists_ h1 h2 h3 => rw [E.none] at h3; cases h3
  | full x h1 h2 h3 h4 h5 h6 =>
    rw [if_pos (by decide)]
    refine LoopV.mk (fun s h' => ∃ (k : Nat), s = (k : Int) ∧ k ≤ st.L.length ∧ h' = h7) (fun s _ => st.L.length - s.toNat) ⟨0, rfl, by omega, rfl⟩ ?_
    rintro - h' ⟨k, rfl, hkl, hh⟩
    subst h'
    unfold law22_FlowtableEvicts_l5
    refine ifD (fun e => ?_) fun e => ?_
    · have hkk : k < (st.L.map (·.id)).length := by omega
      obtain ⟨y, hy, q1, q2, q3⟩ := idr k hkk
      refine Rb7.idx intV_len (by omega) k rfl hkk fun ad c => ?_
      rw [q1] at c
      rw [Int.toNat_natCast]
      refine ldI_mk (c.at0 rfl) (rdv o7 E.len q2 (by omega) (E.at_ y hy) ?_)
      have hb := h5.2 y hy
      unfold befE at hb
      rw [decide_eq_false_iff_not] at hb
      rw [if_neg (by simp; omega), wr (by omega) (by omega)]
      exact ⟨⟨k + 1, rfl, by omega, rfl⟩, by omega⟩
    · rw [wr (by omega) (by omega)]
      exact hKn st vv _ S7 h7 F7 (E.next (by omega)) R7' ok7 o7
  | evict x h1 h2 h3 h4 h5 h6 =>
    rw [if_neg (by decide)]
    have := E.most
    have := E.wf.len
    have := E.wf.ids x h5.1
    exact addD x.id (without st.L x.id) (without_sub _ _) w7 R7' ⟨fun _ => by omega, fun _ => by omega⟩ fun _ => ⟨x, h5, rfl⟩
  | add h1 h2 h3 h4 =>
    rw [if_neg (by decide)]
    have := E.most
    exact addD 0 st.L (List.Sublist.refl _) w7 R7' ⟨fun h => absurd rfl h, fun h => by omega⟩ fun h => absurd rfl h
set_option maxHeartbeats 1000000 in
theorem FlowtableEvicts_c [Gh] (most : Int) (w : Sl Int) {h : Heap} (om : kOk .u8 h most) (ow : SlOk 1 (fun n : Int => [Value.int .u8 n]) (kOk .u8) h w) {Q : Value → Heap → Prop} (hk : ∀ h', Fr (fun _ => False) h h' → Q (.bool true) h') :
    CallT Try.prog fn_law22_FlowtableEvicts #[.int .u8 most, .slice w.p w.xs.length w.cap] h Q := by
  obtain ⟨m0, m1⟩ := wf8 om
  apply law22_FlowtableEvicts_s
  unfold law22_FlowtableEvicts_v
  refine ifD (fun _ => awake_c fun h' f => ⟨_, rfl, hk h' f⟩) fun hn => ?_
  refine ⟨by decide, ?_⟩
  have en : wrap .i64 (1 + Int.tmod (wrap .i64 most) 8) = 1 + most % 8 := by
    rw [wr (x := most) (by omega) (by omega), Int.tmod_eq_emod_of_nonneg (by omega), wr (by omega) (by omega)]
  rw [en]
  have hN : 1 ≤ 1 + most % 8 ∧ 1 + most % 8 ≤ 8 := by omega
  generalize 1 + most % 8 = N at *
  refine new_c N 1000 fun t r1 r2 h2 f2 R2 => ⟨_, rfl, ifNS ?_⟩
  have z2 := f2.size
  refine al_mk (vs := numV (List.replicate 64 0)) fun t7 h3 f3 e3 o3 => ?_
  have z3 := f3.size
  have hmost : (newS N 1000).most = N := by show boundI N 64 = N; unfold boundI; rw [if_neg (by omega), if_neg (by omega)]
  have E0 : Ev (newS N 1000) N 0 (List.replicate 64 0) := ⟨newS_wf N 1000, hmost, by show (0 : Int) ≤ 0; omega, by show (0 : Int) ≤ 0; omega, by simp, (fun e he => by cases he), (fun e he => by cases he), (fun e he => by cases he), (fun e he => by cases he)⟩
  refine LoopV.mk (fun s h' => ∃ (i : Nat) (st : St) (vv : List Int) (ok : Nat → Prop) (S : List PE), s = (st.used, (i : Int)) ∧ i ≤ w.xs.length ∧ Fr (fun _ => False) h h' ∧ Ev st N i vv ∧ TabF ok h' t r1 r2 st S ∧ (∀ b, ok b → h.size ≤ b ∧ b < h'.size ∧ b ≠ t7.block) ∧ Own h' t7 (numV vv) T_64_int) (fun s _ => w.xs.length - s.2.toNat)
    ⟨0, newS N 1000, _, fun b => h.size ≤ b ∧ b < h2.size, [], rfl, by omega, f2.trans f3, E0, (R2.to ⟨R2.okt, R2.own.lt⟩ ⟨R2.okr.1, R2.m1.lt⟩ ⟨R2.okr.2, R2.m2.lt⟩ fun c hc => by cases hc).fr0 f3, fun b hb => by omega, o3⟩ ?_
  rintro - h4 ⟨i, st, vv, ok, S, rfl, hin, f4, E, R4, hok, o4⟩
  by_cases hlt : i < w.xs.length
  · refine evicts_l1 w ow (by omega) hN hlt f4 E R4 hok o4 (by omega) fun st' vv' ok' S' h' F E' R' hok' o' => ?_
    exact ⟨⟨i + 1, st', vv', ok', S', rfl, hlt, F, E', R', hok', o'⟩, by simp only; omega⟩
  · unfold law22_FlowtableEvicts_l1
    rw [if_neg (by simp; omega)]
    unfold law22_FlowtableEvicts_b4
    exact awake_c fun h' f => ⟨_, rfl, hk h' (f4.trans f)⟩
end Go.Proofs.Ytbmifkjdjekenaa
