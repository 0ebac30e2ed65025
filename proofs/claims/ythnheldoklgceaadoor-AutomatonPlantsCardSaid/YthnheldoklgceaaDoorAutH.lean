/-
  The program's add.
-/
import Derived.Test.YthnheldoklgceaaDoorAutG
namespace Go.Proofs.YthnheldoklgceaaDoor
set_option linter.unusedSimpArgs false
set_option linter.unusedVariables false
set_option maxRecDepth 20000
open Go
open Go.IntKind (wrap)
theorem al_of {h : Heap} {cs : Array Value} {vs : List Value} {T : TypeId} {K : Addr → Heap → Prop} (e : cs = vs.toArray) (hk : ∀ a h', Fr (fun _ => False) h h' → a.block = h.size → Own h' a vs T → K a h') : alV h (.cells cs T) K := by
  subst e; exact al_mk hk
theorem wr16 {x : Int} (h1 : 0 ≤ x) (h2 : x < 65536) : wrap .u16 x = x := by
  unfold IntKind.wrap IntKind.bits IntKind.signed
  simp only [Bool.false_and, ge_iff_le]
  rw [if_neg (by simp)]
  omega
def AR (o : Tag) (k : Nat) (x : Nat) : Prop := k < o x ∧ o x < k + 70000
theorem lowL_snoc (s : Nm) (i : Nat) (hi : i < s.length) : (lowL s).take (i + 1) = (lowL s).take i ++ [lowB s[i]] := by
  rw [lowL_take, lowL_take, show s.take (i + 1) = s.take i ++ [s[i]] by rw [List.take_append_getElem]]
  unfold lowL; rw [List.map_append]; rfl
theorem take_pre {l w : Nm} {i : Nat} (hi : i < l.length) : w <+: l.take (i + 1) ↔ w <+: l.take i ∨ w = l.take (i + 1) := by
  rw [show l.take (i + 1) = l.take i ++ [l[i]] by rw [List.take_append_getElem]]
  rw [List.prefix_concat_iff]
  exact ⟨fun h => h.symm, fun h => h.symm⟩
section
variable {o : Tag} {k : Nat} {h : Heap} {a : Addr} {sg : List St} {pq : Option Addr} {pn pc : Nat} {ws : List Nm} {E : Nm → List Nat}
theorem add_c [Gh] (A : AutF o k h a sg pq pn pc) (T : Trie sg ws E) (e : Nat) (he : e < 2 ^ 60) (s : Nm) (hN : ws.length + s.length ≤ 40000) (hE : ∀ w, (E w).length ≤ 1000) {Q : Value → Heap → Prop}
    (hk : ∀ o' h' sg' ws', Old h o o' → (∀ x, h.size ≤ x → k < o' x ∧ o' x < k + 70000) → Fr (AR o k) h h' → AutF o' k h' a sg' pq pn pc → Trie sg' ws' (fun v => if v = lowL s then E v ++ [e] else E v) → (∀ w, w ∈ ws' ↔ w ∈ ws ∨ w <+: lowL s) → ws'.length ≤ ws.length + s.length → Q (.tuple #[]) h') :
    CallT Tryd.prog fn_automaton_Automaton_add #[.pointer (some a), .int .i64 e, .string (bs s)] h Q := by
  apply automaton_Automaton_add_s
  unfold automaton_Automaton_add_v
  rw [bs_size]
  have hz0 := A.lt
  refine LoopV.go (fun n st h' => ∃ (i nw : Nat) (sg' : List St) (ws' : List Nm) (o' : Tag), st.1 = (nw : Int) ∧ st.2 = (i : Int) ∧ i ≤ s.length ∧ n = s.length - i ∧ AutF o' k h' a sg' pq pn pc ∧ Trie sg' ws' E ∧ ws'[nw]? = some ((lowL s).take i) ∧ (∀ w, w ∈ ws' ↔ w ∈ ws ∨ w <+: (lowL s).take i) ∧ ws'.length ≤ ws.length + i ∧ Old h o o' ∧ Fr (AR o k) h h' ∧ (∀ x, h.size ≤ x → x < h'.size → k < o' x ∧ o' x < k + 70000)) s.length
    ⟨0, 0, sg, ws, o, rfl, rfl, by omega, rfl, A, T, by rw [List.take_zero]; exact T.z, fun w => ⟨.inl, fun h => ?_⟩, by omega, Old.refl _ _, Fr.refl _ _, fun x h1 h2 => by omega⟩ ?_
  · rcases h with h | h
    · exact h
    · rw [List.take_zero, List.prefix_nil] at h; rw [h]; exact T.mem T.z
  rintro n ⟨n6, t12⟩ h1 ⟨i, nw, sg1, ws1, o1, hn, ht, hi, rfl, A1, T1, hnw, hmem, hlen, hO1, f1, hr1⟩ Kn hK
  have hn : n6 = (nw : Int) := hn
  have ht : t12 = (i : Int) := ht
  subst hn ht
  dsimp only
  unfold automaton_Automaton_add_l1
  have hl1 := T1.len
  have hlt := T1.lt hnw
  have z1 := f1.size
  refine ifD (fun e1 => ?_) fun e1 => ?_
  · have hil : i < s.length := by omega
    refine ixS s i rfl hil ?_
    have hb := byteI_le s[i]
    refine small_c _ hb.1 hb.2 ⟨_, rfl, ?_⟩
    rw [← byteI_low]
    have hc256 : (lowB s[i]).toNat < 256 := (lowB s[i]).toNat_lt
    have hcn : (byteI (lowB s[i])).toNat * 1 = (lowB s[i]).toNat := by unfold byteI; omega
    have hsn := lowL_snoc s i hil
    generalize lowB s[i] = c at *
    obtain ⟨q, cq, hcell, hcs⟩ := A1.cell
    obtain ⟨ad, hq, ci⟩ := hcs nw hlt
    subst hq
    refine nn_mk (ldL_mk hcell (idxA_mk nw rfl hlt (nn_mk (idxA_mk c.toNat rfl hc256 ?_))))
    rw [hcn, Int.toNat_natCast]
    refine ldI_mk (ci.at (stV_nx _ hc256)) ?_
    have hpl : i < (lowL s).length := by rw [lowL_len]; exact hil
    by_cases h0 : sg1[nw].nx c.toNat = 0
    · rw [h0]
      refine ifE (fun _ => ?_) fun hh => absurd (by decide) hh
      refine nn_mk (ldL_mk hcell (nn_mk (ldL_mk hcell ?_)))
      refine al_of (vs := stV st00) (by kernel_rfl) fun t43 h2 f2 e2 o2 => ?_
      have z2 := f2.size
      have A2 : AutF (upT o1 h1.size (k + 2)) k h2 a sg1 pq pn pc := A1.fr f2 (fun _ _ h => h.elim) (Old.up (Nat.le_refl _))
      have hO2 : ∀ x, x < h1.size → upT o1 h1.size (k + 2) x = o1 x := fun x hx => upT_lt hx
      refine A2.grow o2 (by omega) (f2.hcell hcell id) fun o3 h3 hO3 f3 hr3 A3 => nn_mk ?_
      have z3 := f3.size
      obtain ⟨q3, c3, hcell3, hcs3⟩ := A3.cell
      have hlt3 : nw < (sg1 ++ [st00]).length := by rw [List.length_append]; omega
      obtain ⟨ad3, hq3, ci3⟩ := hcs3 nw hlt3
      refine ldL_mk hcell3 ?_
      subst hq3
      refine idxA_mk nw rfl hlt3 (nn_mk (idxA_mk c.toNat rfl hc256 ?_))
      rw [wr16 (by omega) (by omega)]
      have hget : (sg1 ++ [st00])[nw] = sg1[nw] := List.getElem_append_left hlt
      refine A3.put hcell3 rfl nw hlt3 (j := c.toNat) (by omega) (v := .int .u16 (sg1.length : Nat)) rfl { sg1[nw] with nx := putN sg1[nw].nx c.toNat sg1.length } (by rw [hget]; exact set_nx _ hc256 _) (by rw [hget]) (by rw [hget]) (by rw [hget]) fun h4 f4 A4 => ?_
      have z4 := f4.size
      rw [wr (by omega) (by omega)]
      have T4 := T1.grow hnw c h0
      have hO13 : Old h o o3 := fun x hx => by rw [hO3 x (by omega), hO2 x (by omega)]; exact hO1 x hx
      refine hK (s.length - (i + 1)) _ _ (by omega) ⟨i + 1, sg1.length, _, _, o3, rfl, rfl, hil, rfl, A4, T4, ?_, fun w => ?_, by rw [List.length_append, List.length_singleton]; omega, hO13, ?_, fun x hx hx4 => ?_⟩
      · rw [hl1, List.getElem?_append_right (Nat.le_refl _), Nat.sub_self, hsn]; rfl
      · rw [List.mem_append, hmem, List.mem_singleton, take_pre hpl, hsn]
        exact ⟨fun h => by rcases h with (h | h) | h; exact .inl h; exact .inr (.inl h); exact .inr (.inr h), fun h => by rcases h with h | h | h; exact .inl (.inl h); exact .inl (.inr h); exact .inr h⟩
      · refine ((f1.tr f2 fun _ _ h => h.elim).tr f3 fun x hx hh => ?_).tr f4 fun x hx hh => ?_
        · rw [hO2 x (by omega), hO1 x hx] at hh; unfold AR; omega
        · rw [hO13 x hx] at hh; unfold AR; omega
      · by_cases hx2 : x < h2.size
        · rw [hO3 x hx2]
          by_cases hx1 : x < h1.size
          · rw [hO2 x hx1]; exact hr1 x hx hx1
          · rw [upT_ge (by omega)]; omega
        · rw [hr3 x (by omega)]; omega
    · have hy := T1.yes nw hlt _ c hnw h0
      have hylt := T1.lt hy
      rw [wr (x := ((sg1[nw].nx c.toNat : Nat) : Int)) (by omega) (by omega)]
      refine ifE (fun hh => absurd (by omega) h0) fun _ => ?_
      rw [wr (by omega) (by omega)]
      refine hK (s.length - (i + 1)) _ _ (by omega) ⟨i + 1, sg1[nw].nx c.toNat, sg1, ws1, o1, rfl, rfl, hil, rfl, A1, T1, by rw [hsn]; exact hy, fun w => ?_, by omega, hO1, f1, hr1⟩
      rw [hmem, take_pre hpl, hsn]
      refine ⟨fun h => by rcases h with h | h; exact .inl h; exact .inr (.inl h), fun h => ?_⟩
      rcases h with h | h | h
      · exact .inl h
      · exact .inr h
      · subst h
        exact (hmem _).1 (T1.mem hy)
  · have hie : i = s.length := by omega
    subst hie
    rw [List.take_of_length_le (by rw [lowL_len]; exact Nat.le_refl _)] at hnw hmem
    unfold automaton_Automaton_add_b2
    obtain ⟨q, cq, hcell, hcs⟩ := A1.cell
    obtain ⟨ad, hq, ci⟩ := hcs nw hlt
    subst hq
    refine nn_mk (ldL_mk hcell (nn_mk (ldL_mk hcell (idxA_mk nw rfl hlt (nn_mk ?_)))))
    rw [Int.toNat_natCast]
    refine ldL_mk (ci.at (stV_en _)) ?_
    refine al_mk (vs := inV e) fun t74 h2 f2 e2 o2 => ?_
    have z2 := f2.size
    have A2 : AutF (upT o1 h1.size (k + 2)) k h2 a sg1 pq pn pc := A1.fr f2 (fun _ _ h => h.elim) (Old.up (Nat.le_refl _))
    have hO2 : ∀ x, x < h1.size → upT o1 h1.size (k + 2) x = o1 x := fun x hx => upT_lt hx
    have hcell2 := f2.hcell hcell id
    have ci2 := ci.fr0 f2
    refine ⟨⟨_, _, _, hcell2, rfl⟩, ⟨_, _, _, hcell2, rfl⟩, ⟨_, _, _, ci2.at (stV_en _), rfl⟩, ?_⟩
    have hen := T1.en nw hlt _ hnw
    have hel : sg1[nw].en.length ≤ 2 ^ 20 := by rw [hen]; have := hE (lowL s); omega
    refine A2.addEnd nw hlt e o2 hel hcell2 fun o3 h3 q' c' hO3 f3 hr3 A3 => ?_
    have z3 := f3.size
    have hO13 : Old h o o3 := fun x hx => by rw [hO3 x (by omega), hO2 x (by omega)]; exact hO1 x hx
    refine hk o3 h3 _ ws1 hO13 (fun x hx => ?_) ((f1.tr f2 fun _ _ h => h.elim).tr f3 fun x hx hh => ?_) A3 (T1.ended hnw e q' c') hmem hlen
    · by_cases hx2 : x < h2.size
      · rw [hO3 x hx2]
        by_cases hx1 : x < h1.size
        · rw [hO2 x hx1]; exact hr1 x hx hx1
        · rw [upT_ge (by omega)]; omega
      · rw [hr3 x (by omega)]; omega
    · rw [hO2 x (by omega), hO1 x hx] at hh; unfold AR; omega
end
end Go.Proofs.YthnheldoklgceaaDoor
