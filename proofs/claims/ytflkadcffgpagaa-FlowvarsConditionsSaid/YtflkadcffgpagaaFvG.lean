/-
  The reference's variables: what each method does.
-/
import Derived.Test.YtflkadcffgpagaaFvF
namespace Go.Proofs.Ytflkadcffgpagaa
set_option linter.unusedSimpArgs false
set_option linter.unusedVariables false
set_option maxRecDepth 20000
open Go
open Go.IntKind (wrap)
structure Good (l : List Nm) : Prop where
  asc : Asc l
  len : l.length ≤ 32
  nm : ∀ k ∈ l, isNameB k = true
theorem Good.nil : Good [] := ⟨List.Pairwise.nil, by simp, fun k hk => (List.not_mem_nil hk).elim⟩
theorem mem_with {l : List Nm} {s x : Nm} : x ∈ withL l s ↔ x = s ∨ x ∈ l := by
  unfold withL
  split
  · rename_i h; exact ⟨.inr, fun e => by rcases e with rfl | e; exact h; exact e⟩
  · exact mem_ins
theorem mem_without {l : List Nm} {s x : Nm} : x ∈ withoutL l s ↔ x ∈ l ∧ x ≠ s := by
  unfold withoutL; rw [List.mem_filter, decide_eq_true_eq]
theorem doL_nm : ∀ (ops : List S_api_FlowOp) {l : List Nm}, (∀ k ∈ l, isNameB k = true) → ∀ k ∈ (doL l ops).2, isNameB k = true
  | [], l, h => h
  | o :: os, l, h => by
    unfold doL
    split
    · exact h
    split
    · exact h
    rename_i hn
    split
    · exact doL_nm os fun k hk => h k (mem_without.1 hk).1
    split
    · split
      · exact h
      · refine doL_nm os fun k hk => ?_
        rcases mem_with.1 hk with rfl | hk
        · simpa using hn
        · exact h k hk
    · exact doL_nm os h
theorem Good.doL {l : List Nm} (g : Good l) (ops : List S_api_FlowOp) : Good (doL l ops).2 := ⟨doL_asc ops g.asc, doL_len ops g.len, doL_nm ops g.nm⟩
theorem Good.doS1 {l1 l2 : List Nm} (g1 : Good l1) (g2 : Good l2) (dir : Int) (ops : List S_api_FlowOp) : Good (doS dir l1 l2 ops).2.1 := by
  unfold doS; split
  · dsimp only; split
    · exact g1.doL ops
    · exact g1
  · split <;> exact g1
theorem Good.doS2 {l1 l2 : List Nm} (g1 : Good l1) (g2 : Good l2) (dir : Int) (ops : List S_api_FlowOp) : Good (doS dir l1 l2 ops).2.2 := by
  unfold doS; split
  · exact g2
  · split
    · dsimp only; split
      · exact g2.doL ops
      · exact g2
    · exact g2
theorem Good.sel {l1 l2 : List Nm} (g1 : Good l1) (g2 : Good l2) (dir : Int) : Good (selL dir l1 l2) := by
  unfold selL; split
  · exact g1
  · split
    · exact g2
    · exact Good.nil
structure RefV (ok : Nat → Prop) (h : Heap) (v : Addr) (l1 l2 : List Nm) : Prop where
  ex : ∃ p1 c1 p2 c2, Own h v [.slice p1 l1.length c1, .slice p2 l2.length c2] T_intrusionref48_Vars ∧ Row 1 strV h p1 c1 l1 ∧ Row 1 strV h p2 c2 l2 ∧ (∀ b, InA p1 b → ok b ∧ b ≠ v.block) ∧ (∀ b, InA p2 b → ok b ∧ b ≠ v.block)
  okv : ok v.block
theorem RefV.fr {ok : Nat → Prop} {h h' : Heap} {v : Addr} {l1 l2 : List Nm} (V : RefV ok h v l1 l2) {P : Nat → Prop} (f : Fr P h h') (hP : ∀ b, b < h.size → P b → ¬ ok b) : RefV ok h' v l1 l2 := by
  obtain ⟨⟨p1, c1, p2, c2, o, R1, R2, i1, i2⟩, okv⟩ := V
  exact ⟨⟨p1, c1, p2, c2, o.fr f fun hp => hP _ o.lt hp okv, R1.fr f fun b hb hp => hP _ (R1.lt hb) hp (i1 b hb).1, R2.fr f fun b hb hp => hP _ (R2.lt hb) hp (i2 b hb).1, i1, i2⟩, okv⟩
theorem RefV.fr0 {ok : Nat → Prop} {h h' : Heap} {v : Addr} {l1 l2 : List Nm} (f : Fr (fun _ => False) h h') (V : RefV ok h v l1 l2) : RefV ok h' v l1 l2 := V.fr f fun _ _ h => h.elim
theorem RefV.lt {ok : Nat → Prop} {h : Heap} {v : Addr} {l1 l2 : List Nm} (V : RefV ok h v l1 l2) : v.block < h.size := by
  obtain ⟨⟨p1, c1, p2, c2, o, R1, R2, i1, i2⟩, okv⟩ := V; exact o.lt
theorem RefV.to {ok ok' : Nat → Prop} {h : Heap} {v : Addr} {l1 l2 : List Nm} (V : RefV ok h v l1 l2) (h1 : ∀ b, b < h.size → ok b → ok' b) : RefV ok' h v l1 l2 := by
  obtain ⟨⟨p1, c1, p2, c2, o, R1, R2, i1, i2⟩, okv⟩ := V
  exact ⟨⟨p1, c1, p2, c2, o, R1, R2, fun b hb => ⟨h1 b (R1.lt hb) (i1 b hb).1, (i1 b hb).2⟩, fun b hb => ⟨h1 b (R2.lt hb) (i2 b hb).1, (i2 b hb).2⟩⟩, h1 _ o.lt okv⟩
theorem rNew_c [Gh] {h : Heap} {Q : Value → Heap → Prop} (hk : ∀ v h', Fr (fun _ => False) h h' → RefV (fun b => h.size ≤ b) h' v [] [] → Q (.pointer (some v)) h') : CallT Try.prog fn_ref48_New #[] h Q := by
  apply ref48_New_s
  unfold ref48_New_v
  refine al_mk (vs := [.slice none 0 0, .slice none 0 0]) fun v h1 f1 e1 o1 => ?_
  exact hk v h1 f1 ⟨⟨none, 0, none, 0, o1, Row.nil, Row.nil, fun b hb => (notInA hb).elim, fun b hb => (notInA hb).elim⟩, by omega⟩
theorem rClear_c [Gh] {ok : Nat → Prop} {h : Heap} {v : Addr} {l1 l2 : List Nm} (V : RefV ok h v l1 l2) {Q : Value → Heap → Prop} (hk : ∀ h', Fr (fun b => b = v.block) h h' → RefV ok h' v [] [] → Q (.tuple #[]) h') :
    CallT Try.prog fn_ref48_Vars_Clear #[.pointer (some v)] h Q := by
  obtain ⟨⟨p1, c1, p2, c2, o, R1, R2, i1, i2⟩, okv⟩ := V
  apply ref48_Vars_Clear_s
  unfold ref48_Vars_Clear_v
  rw [if_pos (by rfl)]
  refine nn_mk ?_
  have e0 : v.add 0 = v := by obtain ⟨b, o, s⟩ := v; rfl
  rw [← e0]
  refine st1_own o 0 (by simp) rfl fun h1 f1 s1 o1 => nn_mk ?_
  rw [e0]
  refine st1_own o1 1 (by simp) rfl fun h2 f2 s2 o2 => ?_
  exact hk h2 (f1.trans f2) ⟨⟨none, 0, none, 0, o2, Row.nil, Row.nil, fun b hb => (notInA hb).elim, fun b hb => (notInA hb).elim⟩, okv⟩
theorem rNames_c [Gh] {ok : Nat → Prop} {h : Heap} {v : Addr} {l1 l2 : List Nm} (V : RefV ok h v l1 l2) (n1 : l1.length ≤ 32) (n2 : l2.length ≤ 32) (dir : Int) {Q : Value → Heap → Prop}
    (hk : ∀ p cap h', Fr (fun _ => False) h h' → Row 1 strV h' p cap (selL dir l1 l2) → (∀ b, InA p b → h.size ≤ b) → Q (.slice p (selL dir l1 l2).length cap) h') :
    CallT Try.prog fn_ref48_Vars_Names #[.pointer (some v), .int .i64 dir] h Q := by
  obtain ⟨⟨p1, c1, p2, c2, o, R1, R2, i1, i2⟩, okv⟩ := V
  apply ref48_Vars_Names_s
  unfold ref48_Vars_Names_v
  refine ifNS ?_
  unfold selL at hk
  refine ifE (fun e => ?_) fun e => ?_
  · rw [if_pos e] at hk
    refine al_mk (vs := []) fun t h1 f1 e1 o1 => nn_mk ?_
    have R0 : Row 1 strV h1 (some t) 0 [] := Row.of_own (L := []) strV_len o1
    have z1 := f1.size
    refine ldL_mk ((o.fr0 f1).cells.at0 rfl) ?_
    refine appSL R0 ((R1.fr0 f1).src strV_len (by omega)) (by simp; omega) fun p' c' h2 R2 f2 hn => ⟨_, _, _, rfl, ?_⟩
    rw [List.nil_append] at R2 ⊢
    refine hk p' c' h2 (f1.tr f2 fun b hb hi => ?_) R2 fun b hb => ?_
    · obtain ⟨ad, h, rfl⟩ := hi; cases h; omega
    · rcases hn b hb with h | h
      · obtain ⟨ad, h, rfl⟩ := h; cases h; omega
      · omega
  rw [if_neg e] at hk
  refine ifE (fun e2 => ?_) fun e2 => ?_
  · rw [if_pos e2] at hk
    refine al_mk (vs := []) fun t h1 f1 e1 o1 => nn_mk ?_
    have R0 : Row 1 strV h1 (some t) 0 [] := Row.of_own (L := []) strV_len o1
    have z1 := f1.size
    refine ldL_mk ((o.fr0 f1).cells.at (j := 1) rfl) ?_
    refine appSL R0 ((R2.fr0 f1).src strV_len (by omega)) (by simp; omega) fun p' c' h2 R2 f2 hn => ⟨_, _, _, rfl, ?_⟩
    rw [List.nil_append] at R2 ⊢
    refine hk p' c' h2 (f1.tr f2 fun b hb hi => ?_) R2 fun b hb => ?_
    · obtain ⟨ad, h, rfl⟩ := hi; cases h; omega
    · rcases hn b hb with h | h
      · obtain ⟨ad, h, rfl⟩ := h; cases h; omega
      · omega
  · rw [if_neg e2] at hk
    exact hk none 0 h (Fr.refl _ _) Row.nil fun b hb => (notInA hb).elim
theorem sel_len {l1 l2 : List Nm} (n1 : l1.length ≤ 32) (n2 : l2.length ≤ 32) (dir : Int) : (selL dir l1 l2).length ≤ 32 := by
  unfold selL; split
  · exact n1
  · split
    · exact n2
    · simp
theorem rHolds_c [Gh] {ok : Nat → Prop} {h : Heap} {v : Addr} {l1 l2 : List Nm} (V : RefV ok h v l1 l2) (n1 : l1.length ≤ 32) (n2 : l2.length ≤ 32) (dir : Int) {w : Sl S_api_FlowOp} (ow : SlOk 2 S_api_FlowOp.vals S_api_FlowOp.ok h w) (hw : w.xs.length ≤ 2 ^ 40) {Q : Value → Heap → Prop}
    (hk : ∀ h', Fr (fun _ => False) h h' → Q (.bool (holdsB (selL dir l1 l2) w.xs)) h') :
    CallT Try.prog fn_ref48_Vars_Holds #[.pointer (some v), .int .i64 dir, .slice w.p w.xs.length w.cap] h Q := by
  apply ref48_Vars_Holds_s
  unfold ref48_Vars_Holds_v
  refine ifNS ?_
  have hm := sel_len n1 n2 dir
  refine rNames_c V n1 n2 dir fun p cap h1 f1 R _ => ⟨_, _, _, rfl, ?_⟩
  generalize selL dir l1 l2 = m at *
  have ow1 := SlOk.fr0 S_api_FlowOp.ok_fr f1 ow
  refine LoopV.mk (fun s h' => ∃ i : Nat, s = (i : Int) ∧ i ≤ w.xs.length ∧ h' = h1 ∧ holdsB m (w.xs.take i) = true) (fun s _ => w.xs.length - s.toNat) ⟨0, rfl, by omega, rfl, rfl⟩ ?_
  rintro - h2 ⟨i, rfl, hi, hh, hb⟩
  subst hh
  unfold ref48_Vars_Holds_l1
  refine ifD (fun e => ?_) fun e => ?_
  · have hlt : i < w.xs.length := by omega
    have htk : w.xs.take (i + 1) = w.xs.take i ++ [w.xs[i]] := by rw [List.take_append_getElem]
    obtain ⟨ad, hp, c, _⟩ := ow1.at_ i hlt
    have c : Cells h2 (ad.add (i * 2)) [.int .i64 w.xs[i].Op, .string (bs w.xs[i].Name)] := c
    have no : (!(decide (w.xs[i].Op = 3) && !decide (w.xs[i].Name ∈ m)) && !(decide (w.xs[i].Op = 4) && decide (w.xs[i].Name ∈ m))) = false → holdsB m w.xs = false := fun hn => by
      unfold holdsB; rw [List.all_eq_false]; exact ⟨w.xs[i], List.getElem_mem hlt, by rw [hn]; decide⟩
    have go : (!(decide (w.xs[i].Op = 3) && !decide (w.xs[i].Name ∈ m)) && !(decide (w.xs[i].Op = 4) && decide (w.xs[i].Name ∈ m))) = true → (∃ k : Nat, wrap .i64 ((i : Int) + 1) = (k : Int) ∧ k ≤ w.xs.length ∧ h2 = h2 ∧ holdsB m (w.xs.take k) = true) ∧ w.xs.length - (wrap .i64 ((i : Int) + 1)).toNat < w.xs.length - (i : Int).toNat := fun ht => by
      rw [wr (by omega) (by omega)]
      refine ⟨⟨i + 1, rfl, hlt, rfl, ?_⟩, by omega⟩
      unfold holdsB at hb ⊢
      rw [htk, List.all_append, hb, List.all_cons, ht]; rfl
    generalize w.xs[i].Op = op at *
    generalize w.xs[i].Name = nm at *
    rw [Int.toNat_natCast, hp]
    have ix : ∀ {K : Addr → Prop}, K ad → idxA (i : Int) w.xs.length (nn (some ad) fun a => K a) := fun hK => idxA_mk i rfl hlt (nn_mk hK)
    have ml : m.length ≤ 2 ^ 20 := by omega
    refine ix (ldI_mk (c.at0 rfl) (ifE (fun e1 => ?_) fun e1 => ?_))
    · subst e1
      refine ix (ldS_mk (c.at (j := 1) rfl) (set_c R ml nm ⟨_, rfl, ifN (fun e2 => ?_) fun e2 => ?_⟩))
      · rw [no (by rw [e2]; rfl)] at hk; exact hk h2 f1
      refine ix (ldI_mk (c.at0 rfl) ?_)
      rw [if_neg (by decide)]
      exact go (by rw [e2]; rfl)
    · refine ix (ldI_mk (c.at0 rfl) (ifE (fun e3 => ?_) fun e3 => ?_))
      · subst e3
        refine ix (ldS_mk (c.at (j := 1) rfl) (set_c R ml nm ⟨_, rfl, ifB (fun e2 => ?_) fun e2 => ?_⟩))
        · rw [no (by rw [e2]; rfl)] at hk; exact hk h2 f1
        · exact go (by rw [e2]; rfl)
      · exact go (by rw [decide_eq_false e1, decide_eq_false e3]; rfl)
  · rw [List.take_of_length_le (by omega)] at hb
    rw [hb] at hk
    exact hk h2 f1
theorem with_len {l : List Nm} {s : Nm} (h : ¬ (s ∉ l ∧ l.length ≥ 32)) (hl : l.length ≤ 32) : (withL l s).length ≤ 32 := by
  unfold withL; split
  · exact hl
  · rename_i hm
    rw [ins_len]
    have : ¬ l.length ≥ 32 := fun hl => h ⟨hm, hl⟩
    omega
/-- The reference's changes, in a row of its own. -/
theorem rDo_loop [Gh] {h : Heap} {v : Addr} {dir : Int} {l : List Nm} {p : Option Addr} {cap : Nat} (R : Row 1 strV h p cap l) (hl : l.length ≤ 32) {w : Sl S_api_FlowOp} (ow : SlOk 2 S_api_FlowOp.vals S_api_FlowOp.ok h w) (hw : w.xs.length ≤ 2 ^ 40) {Q : Value → Heap → Prop}
    (he : ∀ h', Fr (fun _ => False) h h' → (doL l w.xs).1 ≠ 0 → Q (.int .i64 (doL l w.xs).1) h')
    (h0 : ∀ p' cap' h', Fr (fun _ => False) h h' → (doL l w.xs).1 = 0 → Row 1 strV h' p' cap' (doL l w.xs).2 → (∀ b, InA p' b → InA p b ∨ h.size ≤ b) → ref48_Vars_Do_b2 (some v) dir p' (doL l w.xs).2.length cap' Q h') :
    LoopV (fun (s : (Option Addr) × Nat × Nat × Int) h Kn => ref48_Vars_Do_l1 (some v) dir w.p w.xs.length w.cap Q s.1 s.2.1 s.2.2.1 s.2.2.2 h Kn) (p, l.length, cap, 0) h := by
  refine LoopV.mk (fun st h' => ∃ (i : Nat) (m : List Nm), st.2.2.2 = (i : Int) ∧ st.2.1 = m.length ∧ i ≤ w.xs.length ∧ Fr (fun _ => False) h h' ∧ Row 1 strV h' st.1 st.2.2.1 m ∧ m.length ≤ 32 ∧ (∀ b, InA st.1 b → InA p b ∨ h.size ≤ b) ∧ doL l w.xs = doL m (w.xs.drop i)) (fun st _ => w.xs.length - st.2.2.2.toNat)
    ⟨0, l, rfl, rfl, by omega, Fr.refl _ _, R, hl, fun b hb => .inl hb, rfl⟩ ?_
  rintro ⟨a, n, c, j⟩ h1 ⟨i, m, hj, hn, hi, f1, R1, hm, ha, hd⟩
  dsimp only at hj hn R1 ha
  subst hj hn
  unfold ref48_Vars_Do_l1
  dsimp only
  refine ifD (fun e => ?_) fun e => ?_
  · have hlt : i < w.xs.length := by omega
    have hdr : w.xs.drop i = w.xs[i] :: w.xs.drop (i + 1) := List.drop_eq_getElem_cons hlt
    rw [hdr, doL_cons] at hd
    have z1 := f1.size
    obtain ⟨ad, hp, cc, _⟩ := (SlOk.fr0 S_api_FlowOp.ok_fr f1 ow).at_ i hlt
    have cc : Cells h1 (ad.add (i * 2)) [.int .i64 w.xs[i].Op, .string (bs w.xs[i].Name)] := cc
    generalize w.xs[i].Op = op at *
    generalize w.xs[i].Name = nm at *
    rw [Int.toNat_natCast, hp]
    have ix : ∀ {K : Addr → Prop}, K ad → idxA (i : Int) w.xs.length (nn (some ad) fun a => K a) := fun hK => idxA_mk i rfl hlt (nn_mk hK)
    have ml : m.length ≤ 2 ^ 18 := by omega
    have go : ∀ a' c' h4 m', Fr (fun _ => False) h h4 → Row 1 strV h4 a' c' m' → m'.length ≤ 32 → (∀ b, InA a' b → InA p b ∨ h.size ≤ b) → doL l w.xs = doL m' (w.xs.drop (i + 1)) → (∃ (k : Nat) (m : List Nm), wrap .i64 ((i : Int) + 1) = (k : Int) ∧ m'.length = m.length ∧ k ≤ w.xs.length ∧ Fr (fun _ => False) h h4 ∧ Row 1 strV h4 a' c' m ∧ m.length ≤ 32 ∧ (∀ b, InA a' b → InA p b ∨ h.size ≤ b) ∧ doL l w.xs = doL m (w.xs.drop k)) ∧ w.xs.length - (wrap .i64 ((i : Int) + 1)).toNat < w.xs.length - (i : Int).toNat := fun a' c' h4 m' f4 R4 hm' ha' hd' => by
      rw [wr (by omega) (by omega)]
      exact ⟨⟨i + 1, m', rfl, rfl, hlt, f4, R4, hm', ha', hd'⟩, by omega⟩
    refine ix (ldI_mk (cc.at0 rfl) (ifD (fun e1 => ?_) fun e1 => ?_))
    · rw [if_pos (.inl e1)] at hd
      have := he h1 f1 (by rw [hd]; show (4 : Int) ≠ 0; omega)
      rw [hd] at this; exact this
    refine ix (ldI_mk (cc.at0 rfl) (ifD (fun e2 => ?_) fun e2 => ?_))
    · rw [if_pos (.inr e2)] at hd
      have := he h1 f1 (by rw [hd]; show (4 : Int) ≠ 0; omega)
      rw [hd] at this; exact this
    rw [if_neg (by omega)] at hd
    refine ix (ldS_mk (cc.at (j := 1) rfl) (rIsName_c nm ⟨_, rfl, ifN (fun e3 => ?_) fun e3 => ?_⟩))
    · rw [if_pos e3] at hd
      have := he h1 f1 (by rw [hd]; show (5 : Int) ≠ 0; omega)
      rw [hd] at this; exact this
    rw [if_neg (by rw [e3]; decide)] at hd
    refine ix (ldI_mk (cc.at0 rfl) (ifE (fun e4 => ?_) fun e4 => ?_))
    · rw [if_neg (by omega), if_pos e4] at hd
      have fin : ∀ {Kn : (Option Addr) × Nat × Nat × Int → Heap → Prop}, (∀ p' c' h2, Fr (fun _ => False) h h2 → Row 1 strV h2 p' c' (withL m nm) → (∀ b, InA p' b → InA p b ∨ h.size ≤ b) → Kn (p', (withL m nm).length, c', wrap .i64 ((i : Int) + 1)) h2) → ref48_Vars_Do_b3 (some v) dir (some ad) w.xs.length w.cap a m.length c (i : Int) Q Kn h1 := fun hK => by
        unfold ref48_Vars_Do_b3
        rw [Int.toNat_natCast]
        refine ix (ldS_mk (cc.at (j := 1) rfl) ?_)
        refine with_c R1 ml nm fun p' c' h2 f2 R2 hn2 => ⟨_, _, _, rfl, ?_⟩
        exact hK p' c' h2 (f1.trans f2) R2 fun b hb => by
          rcases hn2 b hb with h | h
          · exact ha b h
          · exact .inr (by omega)
      refine ix (ldS_mk (cc.at (j := 1) rfl) (set_c R1 (by omega) nm ⟨_, rfl, ifN (fun e5 => ?_) fun e5 => ?_⟩))
      · rw [decide_eq_false_iff_not] at e5
        refine ifD (fun e6 => ?_) fun e6 => ?_
        · rw [if_pos ⟨e5, by omega⟩] at hd
          have := he h1 f1 (by rw [hd]; show (11 : Int) ≠ 0; omega)
          rw [hd] at this; exact this
        · have hf : ¬ (nm ∉ m ∧ m.length ≥ 32) := fun h => e6 (by have := h.2; omega)
          rw [if_neg hf] at hd
          refine fin fun p' c' h2 f2 R2 hn2 => ?_
          exact go p' c' h2 _ f2 R2 (with_len hf hm) hn2 hd
      · rw [decide_eq_true_eq] at e5
        have hf : ¬ (nm ∉ m ∧ m.length ≥ 32) := fun h => h.1 e5
        rw [if_neg hf] at hd
        refine fin fun p' c' h2 f2 R2 hn2 => ?_
        exact go p' c' h2 _ f2 R2 (with_len hf hm) hn2 hd
    refine ix (ldI_mk (cc.at0 rfl) (ifE (fun e5 => ?_) fun e5 => ?_))
    · rw [if_pos e5] at hd
      refine ix (ldS_mk (cc.at (j := 1) rfl) ?_)
      refine without_c R1 ml nm fun p' c' h2 f2 R2 hn2 => ⟨_, _, _, rfl, ?_⟩
      exact go p' c' h2 _ (f1.trans f2) R2 (Nat.le_trans (without_len _ _) hm) (fun b hb => .inr (by have := hn2 b hb; omega)) hd
    · rw [if_neg e5, if_neg e4] at hd
      exact go a c h1 m f1 R1 hm ha hd
  · rw [List.drop_eq_nil_of_le (by omega)] at hd
    have e0 : (doL l w.xs).1 = 0 := by rw [hd]; rfl
    have e1 : (doL l w.xs).2 = m := by rw [hd]; rfl
    have := h0 a c h1 f1 e0 (by rw [e1]; exact R1) ha
    rw [e1] at this; exact this
theorem rDo_c [Gh] {ok : Nat → Prop} {h : Heap} {v : Addr} {l1 l2 : List Nm} (V : RefV ok h v l1 l2) (n1 : l1.length ≤ 32) (n2 : l2.length ≤ 32) (hok : ∀ b, h.size ≤ b → ok b) (dir : Int) {w : Sl S_api_FlowOp} (ow : SlOk 2 S_api_FlowOp.vals S_api_FlowOp.ok h w) (hw : w.xs.length ≤ 2 ^ 40) {Q : Value → Heap → Prop}
    (hk : ∀ h', Fr (fun b => b = v.block) h h' → RefV ok h' v (doS dir l1 l2 w.xs).2.1 (doS dir l1 l2 w.xs).2.2 → Q (.int .i64 (doS dir l1 l2 w.xs).1) h') :
    CallT Try.prog fn_ref48_Vars_Do #[.pointer (some v), .int .i64 dir, .slice w.p w.xs.length w.cap] h Q := by
  apply ref48_Vars_Do_s
  unfold ref48_Vars_Do_v
  refine ifNS ?_
  have lv := V.lt
  have b4 : dir = 1 ∨ dir = 2 → ref48_Vars_Do_b4 (some v) dir w.p w.xs.length w.cap Q h := fun hd => by
    unfold ref48_Vars_Do_b4
    refine rNames_c V n1 n2 dir fun p cap h1 f1 R1 hp => ⟨_, _, _, rfl, ?_⟩
    have z1 := f1.size
    refine rDo_loop R1 (sel_len n1 n2 dir) (SlOk.fr0 S_api_FlowOp.ok_fr f1 ow) hw (fun h2 f2 he => ?_) fun p' c' h2 f2 h0 R2 hp2 => ?_
    · have V2 := V.fr0 (f1.trans f2)
      rcases hd with rfl | rfl
      · have he : (doL l1 w.xs).1 ≠ 0 := he
        have hk : ∀ h', Fr (fun b => b = v.block) h h' → RefV ok h' v (if (doL l1 w.xs).1 = 0 then (doL l1 w.xs).2 else l1) l2 → Q (.int .i64 (doL l1 w.xs).1) h' := hk
        rw [if_neg he] at hk
        exact hk h2 ((f1.trans f2).mono fun _ h => h.elim) V2
      · have he : (doL l2 w.xs).1 ≠ 0 := he
        have hk : ∀ h', Fr (fun b => b = v.block) h h' → RefV ok h' v l1 (if (doL l2 w.xs).1 = 0 then (doL l2 w.xs).2 else l2) → Q (.int .i64 (doL l2 w.xs).1) h' := hk
        rw [if_neg he] at hk
        exact hk h2 ((f1.trans f2).mono fun _ h => h.elim) V2
    · obtain ⟨⟨p1, c1, p2, c2, o, S1, S2, i1, i2⟩, okv⟩ := V.fr0 (f1.trans f2)
      have hp3 : ∀ b, InA p' b → ok b ∧ b ≠ v.block := fun b hb => by
        have : h.size ≤ b := by
          rcases hp2 b hb with h | h
          · exact hp b h
          · omega
        exact ⟨hok b this, by omega⟩
      unfold ref48_Vars_Do_b2
      have e0 : v.add 0 = v := by obtain ⟨b, o, s⟩ := v; rfl
      rcases hd with rfl | rfl
      · have h0 : (doL l1 w.xs).1 = 0 := h0
        have hk : ∀ h', Fr (fun b => b = v.block) h h' → RefV ok h' v (if (doL l1 w.xs).1 = 0 then (doL l1 w.xs).2 else l1) l2 → Q (.int .i64 (doL l1 w.xs).1) h' := hk
        rw [if_pos h0, h0] at hk
        rw [if_pos (by rfl)]
        refine nn_mk ?_
        rw [← e0]
        refine st1_own o 0 (by simp) rfl fun h3 f3 s3 o3 => ?_
        rw [e0] at *
        refine hk h3 (((f1.trans f2).mono fun _ h => h.elim).trans f3) ⟨⟨p', c', p2, c2, o3, R2.fr f3 fun b hb h => (hp3 b hb).2 h, S2.fr f3 fun b hb h => (i2 b hb).2 h, hp3, i2⟩, okv⟩
      · have h0 : (doL l2 w.xs).1 = 0 := h0
        have hk : ∀ h', Fr (fun b => b = v.block) h h' → RefV ok h' v l1 (if (doL l2 w.xs).1 = 0 then (doL l2 w.xs).2 else l2) → Q (.int .i64 (doL l2 w.xs).1) h' := hk
        rw [if_pos h0, h0] at hk
        rw [if_neg (by decide)]
        refine nn_mk ?_
        refine st1_own o 1 (by simp) rfl fun h3 f3 s3 o3 => ?_
        refine hk h3 (((f1.trans f2).mono fun _ h => h.elim).trans f3) ⟨⟨p1, c1, p', c', o3, S1.fr f3 fun b hb h => (i1 b hb).2 h, R2.fr f3 fun b hb h => (hp3 b hb).2 h, i1, hp3⟩, okv⟩
  refine ifNe (fun e1 => ?_) fun e1 => b4 (.inl e1)
  refine ifNe (fun e2 => ?_) fun e2 => b4 (.inr e2)
  have e : doS dir l1 l2 w.xs = (4, l1, l2) := by unfold doS; rw [if_neg e1, if_neg e2]
  rw [e] at hk
  exact hk h (Fr.refl _ _) V
end Go.Proofs.Ytflkadcffgpagaa
