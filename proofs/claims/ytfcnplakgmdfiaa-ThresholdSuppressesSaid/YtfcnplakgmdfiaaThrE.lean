/-
  The counter that is forgotten first.
-/
import Derived.Test.YtfcnplakgmdfiaaThrD
namespace Go.Proofs.Ytfcnplakgmdfiaa
set_option linter.unusedSimpArgs false
set_option linter.unusedVariables false
set_option maxRecDepth 20000
open Go
open Go.IntKind (wrap)
structure Ct where
  key : Key
  p : Addr
  began : Int
  n : Int
def Ct.kv (c : Ct) : Key × Value := (c.key, .pointer (some c.p))
def Ct.vals (c : Ct) : List Value := [.int .i64 c.began, .int .i64 c.n]
def befK (b1 : Int) (k1 : Key) (b2 : Int) (k2 : Key) : Bool := decide (b1 < b2) || (decide (b1 = b2) && lessK k1 k2)
def bef (x y : Ct) : Bool := befK x.began x.key y.began y.key
theorem befK_irr (b : Int) (k : Key) : befK b k b k = false := by
  unfold befK; rw [lessK_lex, lexL_irr]; simp
theorem befK_trans {b1 b2 b3 : Int} {k1 k2 k3 : Key} (h1 : befK b1 k1 b2 k2 = true) (h2 : befK b2 k2 b3 k3 = true) : befK b1 k1 b3 k3 = true := by
  unfold befK at *
  simp only [Bool.or_eq_true, Bool.and_eq_true, decide_eq_true_eq, lessK_lex] at *
  rcases h1 with h1 | ⟨h1, g1⟩
  · rcases h2 with h2 | ⟨h2, g2⟩
    · exact .inl (by omega)
    · exact .inl (by omega)
  · rcases h2 with h2 | ⟨h2, g2⟩
    · exact .inl (by omega)
    · exact .inr ⟨by omega, lexL_trans k1.ints k2.ints k3.ints rfl rfl g1 g2⟩
theorem befK_total {b1 b2 : Int} {k1 k2 : Key} (h1 : befK b1 k1 b2 k2 = false) (h2 : befK b2 k2 b1 k1 = false) : b1 = b2 ∧ k1 = k2 := by
  unfold befK at *
  simp only [Bool.or_eq_false_iff, Bool.and_eq_false_iff, decide_eq_false_iff_not, lessK_lex] at *
  have hb : b1 = b2 := by omega
  refine ⟨hb, ints_inj (lexL_total _ _ rfl ?_ ?_)⟩
  · rcases h1.2 with h | h
    · exact absurd hb h
    · exact h
  · rcases h2.2 with h | h
    · exact absurd hb.symm h
    · exact h
def CtsOk (h : Heap) (S : List Ct) : Prop := ∀ c ∈ S, Own h c.p c.vals T_threshold_counter
theorem CtsOk.fr0 {h h' : Heap} {S : List Ct} (f : Fr (fun _ => False) h h') (o : CtsOk h S) : CtsOk h' S := fun c hc => (o c hc).fr0 f
theorem dKey {k : Key} {K : Int → Int → Int → Int → Int → Bool → Int → Int → Bool → Int → Int → Prop} (hk : K k.sid k.th.kind k.th.by_ k.th.count k.th.secs k.a.v6 k.a.hi k.a.lo k.b.v6 k.b.hi k.b.lo) :
    dG k.v fun lt15_1 => dC lt15_1 fun vt15_2 lt15_2 => dI .i64 vt15_2 fun t15_0 => dC lt15_2 fun vt15_3 lt15_3 => dI .i64 vt15_3 fun t15_1 => dC lt15_3 fun vt15_4 lt15_4 => dI .i64 vt15_4 fun t15_2 => dC lt15_4 fun vt15_5 lt15_5 => dI .i64 vt15_5 fun t15_3 => dC lt15_5 fun vt15_6 lt15_6 => dI .i64 vt15_6 fun t15_4 => dC lt15_6 fun vt15_7 lt15_7 => dB vt15_7 fun t15_5 => dC lt15_7 fun vt15_8 lt15_8 => dI .u64 vt15_8 fun t15_6 => dC lt15_8 fun vt15_9 lt15_9 => dI .u64 vt15_9 fun t15_7 => dC lt15_9 fun vt15_10 lt15_10 => dB vt15_10 fun t15_8 => dC lt15_10 fun vt15_11 lt15_11 => dI .u64 vt15_11 fun t15_9 => dC lt15_11 fun vt15_12 lt15_12 => dI .u64 vt15_12 fun t15_10 => dE lt15_12 (K t15_0 t15_1 t15_2 t15_3 t15_4 t15_5 t15_6 t15_7 t15_8 t15_9 t15_10) := by
  simp only [Key.v, dG, dC, dI, dB, dE, if_true]
  exact hk
theorem first_c [Gh] {h : Heap} {t : Addr} {T : Int} {r : Nat} {S : List Ct} (ot : Own h t [.int .i64 T, .map (some r)] T_threshold_Table) (I : MapI Key.v h r (S.map Ct.kv)) (oc : CtsOk h S) (hS : S ≠ []) {Q : Value → Heap → Prop}
    (hk : ∀ c ∈ S, (∀ y ∈ S, bef y c = false) → ∀ h', Fr (fun _ => False) h h' → Q c.key.v h') : CallT Try.prog fn_threshold_Table_first #[.pointer (some t)] h Q := by
  apply threshold_Table_first_s
  unfold threshold_Table_first_v
  refine al_mk (vs := (Key.mk 0 ⟨0, 0, 0, 0⟩ noA noA).vals) fun t2 h1 f1 e1 o2 => ?_
  refine al_mk (vs := (Key.mk 0 ⟨0, 0, 0, 0⟩ noA noA).vals) fun t3 h2 f2 e2 o3 => ?_
  have l2 := o2.lt
  have o2 := o2.fr0 f2
  have f12 := f1.trans f2
  have l3 := o3.lt
  refine nn_mk ⟨some r, (ot.fr0 f12).cells.at rfl, ?_⟩
  refine range_mk Try.underlying59 (I.fr f12 id) fun it h3 f3 e3 I3 => ⟨it, rfl, ?_⟩
  have f13 := f12.trans f3
  have z1 := f1.size
  have hr := I.lt
  have lit := I3.lt
  refine LoopV.mk (fun least h' => ∃ (rest : List Ct) (cur : Option Ct) (ko : Key), IterI Key.v h' it r (S.map Ct.kv) (rest.map Ct.kv) ∧ Fr (fun _ => False) h h' ∧ Own h' t2 (Key.mk 0 ⟨0, 0, 0, 0⟩ noA noA).vals T_threshold_key ∧ Own h' t3 ko.vals T_threshold_key ∧
      least = cur.map (·.p) ∧ (∀ c, cur = some c → c ∈ S ∧ ko = c.key) ∧ (∀ c ∈ rest, c ∈ S) ∧ ∀ y ∈ S, y ∈ rest ∨ ∃ c, cur = some c ∧ bef y c = false) (fun _ h' => leftN h' it r)
    ⟨S, none, _, I3, f13, o2.fr0 f3, o3.fr0 f3, rfl, (fun c h => by cases h), (fun c h => h), fun y hy => .inl hy⟩ ?_
  rintro - h4 ⟨rest, cur, ko, I4, f4, o2, o3, rfl, hcur, hrest, hall⟩
  rw [I4.left]
  unfold threshold_Table_first_l1
  have hz := f13.size
  have lt2 : t2.block < it := by omega
  have lt3 : t3.block < it := by omega
  refine next_mk I4 (fun hn => ⟨fun _ => ?_, fun h => absurd rfl h⟩) fun a x b h5 hab hx f5 s5 I5 C5 => ⟨fun h => by simp at h, fun _ => ⟨_, _, rfl, ?_⟩⟩
  · have hn : rest = [] := by simpa using hn
    subst hn
    obtain ⟨y, hy⟩ := List.exists_mem_of_ne_nil _ hS
    obtain ⟨c, hc, _⟩ : ∃ c, cur = some c ∧ bef y c = false := by rcases hall y hy with h | h; cases h; exact h
    obtain ⟨hcS, hko⟩ := hcur c hc
    subst hko
    unfold threshold_Table_first_b2
    refine (ldI_mk (o3.cells.at0 rfl) (ldI_mk (o3.cells.at rfl) (ldI_mk (o3.cells.at rfl) (ldI_mk (o3.cells.at rfl) (ldI_mk (o3.cells.at rfl) (ldB_mk (o3.cells.at rfl) (ldI_mk (o3.cells.at rfl) (ldI_mk (o3.cells.at rfl) (ldB_mk (o3.cells.at rfl) (ldI_mk (o3.cells.at rfl) (ldI_mk (o3.cells.at rfl) ?_)))))))))))
    refine stN_own o2 (ws := c.key.vals) rfl rfl fun h6 f6 s6 o6 => ?_
    refine (ldI_mk (o6.cells.at0 rfl) (ldI_mk (o6.cells.at rfl) (ldI_mk (o6.cells.at rfl) (ldI_mk (o6.cells.at rfl) (ldI_mk (o6.cells.at rfl) (ldB_mk (o6.cells.at rfl) (ldI_mk (o6.cells.at rfl) (ldI_mk (o6.cells.at rfl) (ldB_mk (o6.cells.at rfl) (ldI_mk (o6.cells.at rfl) (ldI_mk (o6.cells.at rfl) ?_)))))))))))
    refine hk c hcS (fun y hy => ?_) h6 (f4.tr f6 fun x hx hi => by omega)
    rcases hall y hy with h | ⟨c', hc', hb⟩
    · cases h
    · rw [hc] at hc'; cases hc'; exact hb
  · obtain ⟨ra, rb', er, ea, eb⟩ := List.map_eq_append_iff.1 hab
    obtain ⟨cx, rb, erb, ecx, eb2⟩ := List.map_eq_cons_iff.1 eb
    subst er erb ecx ea eb2
    refine entry_mk C5 ⟨_, _, rfl, dKey ?_⟩
    refine dP_intro (b := some cx.p) rfl ?_
    have hcx : cx ∈ S := hrest cx (by simp)
    have f5' : Fr (fun _ => False) h h5 := f4.tr f5 fun y hy hi => by omega
    have o2 := o2.fr f5 (by omega)
    have o3 := o3.fr f5 (by omega)
    refine cp_mk (vs := cx.key.vals) rfl rfl fun t5 h7 f7 e7 o5 => ?_
    have f07 := f5'.trans f7
    have oc7 : CtsOk h7 S := oc.fr0 f07
    have I7 := I5.fr f7 id id
    have o2 := o2.fr0 f7
    have o3 := o3.fr0 f7
    have z7 := f7.size
    rw [← List.map_append] at I7
    have lI : (List.map Ct.kv (ra ++ cx :: rb)).length = (ra ++ rb).length + 1 := by simp; omega
    rw [lI]
    have take : ∀ hx (fx : Fr (fun _ => False) h7 hx) (Kn : Option Addr → Heap → Prop), (∀ h8, Fr (fun b => b = t3.block) hx h8 → h8.size = hx.size → Own h8 t3 cx.key.vals T_threshold_key → Kn (some cx.p) h8) → threshold_Table_first_b3 t2 t3 t5 (some cx.p) ⟨it, 0, none⟩ Q Kn hx := fun hx fx Kn hKn => by
      unfold threshold_Table_first_b3
      have o5 := o5.fr0 fx
      refine (ldI_mk (o5.cells.at0 rfl) (ldI_mk (o5.cells.at rfl) (ldI_mk (o5.cells.at rfl) (ldI_mk (o5.cells.at rfl) (ldI_mk (o5.cells.at rfl) (ldB_mk (o5.cells.at rfl) (ldI_mk (o5.cells.at rfl) (ldI_mk (o5.cells.at rfl) (ldB_mk (o5.cells.at rfl) (ldI_mk (o5.cells.at rfl) (ldI_mk (o5.cells.at rfl) ?_)))))))))))
      exact stN_own (o3.fr0 fx) (ws := cx.key.vals) rfl rfl hKn
    have done : ∀ hx (_ : Fr (fun _ => False) h7 hx) h8, Fr (fun b => b = t3.block) hx h8 → h8.size = hx.size → Own h8 t3 cx.key.vals T_threshold_key → (∀ c, cur = some c → bef cx c = true) → (∃ (rest : List Ct) (cur : Option Ct) (ko : Key), IterI Key.v h8 it r (S.map Ct.kv) (rest.map Ct.kv) ∧ Fr (fun _ => False) h h8 ∧ Own h8 t2 (Key.mk 0 ⟨0, 0, 0, 0⟩ noA noA).vals T_threshold_key ∧ Own h8 t3 ko.vals T_threshold_key ∧
      some cx.p = cur.map (·.p) ∧ (∀ c, cur = some c → c ∈ S ∧ ko = c.key) ∧ (∀ c ∈ rest, c ∈ S) ∧ ∀ y ∈ S, y ∈ rest ∨ ∃ c, cur = some c ∧ bef y c = false) ∧ leftN h8 it r < (ra ++ rb).length + 1 := by
      intro hx fx h8 f8 s8 o8 hb
      have I8 := (I7.fr fx id id).fr f8 (by omega) (by omega)
      refine ⟨⟨ra ++ rb, some cx, cx.key, I8, (f07.trans fx).tr f8 fun y hy hi => by omega, (o2.fr0 fx).fr f8 (by omega), o8, rfl, fun c h => by cases h; exact ⟨hcx, rfl⟩, fun c hc => hrest c (by rcases List.mem_append.1 hc with h | h <;> simp [h]), fun y hy => ?_⟩, by rw [I8.left]; simp⟩
      rcases hall y hy with h | ⟨c, hc, hbc⟩
      · rcases List.mem_append.1 h with h | h
        · exact .inl (List.mem_append_left _ h)
        · rcases List.mem_cons.1 h with rfl | h
          · exact .inr ⟨_, rfl, befK_irr _ _⟩
          · exact .inl (List.mem_append_right _ h)
      · refine .inr ⟨cx, rfl, ?_⟩
        cases hyx : bef y cx with
        | false => rfl
        | true =>
          have : bef y c = true := befK_trans hyx (hb c hc)
          rw [this] at hbc; cases hbc
    have keep : ∀ h8 c, cur = some c → Fr (fun _ => False) h7 h8 → bef cx c = false → (∃ (rest : List Ct) (cur' : Option Ct) (ko : Key), IterI Key.v h8 it r (S.map Ct.kv) (rest.map Ct.kv) ∧ Fr (fun _ => False) h h8 ∧ Own h8 t2 (Key.mk 0 ⟨0, 0, 0, 0⟩ noA noA).vals T_threshold_key ∧ Own h8 t3 ko.vals T_threshold_key ∧
      cur.map (·.p) = cur'.map (·.p) ∧ (∀ c, cur' = some c → c ∈ S ∧ ko = c.key) ∧ (∀ c ∈ rest, c ∈ S) ∧ ∀ y ∈ S, y ∈ rest ∨ ∃ c, cur' = some c ∧ bef y c = false) ∧ leftN h8 it r < (ra ++ rb).length + 1 := by
      intro h8 c hc f8 hb
      have I8 := I7.fr f8 id id
      refine ⟨⟨ra ++ rb, cur, ko, I8, f07.trans f8, o2.fr0 f8, o3.fr0 f8, rfl, hcur, fun c hc => hrest c (by rcases List.mem_append.1 hc with h | h <;> simp [h]), fun y hy => ?_⟩, by rw [I8.left]; simp⟩
      rcases hall y hy with h | h
      · rcases List.mem_append.1 h with h | h
        · exact .inl (List.mem_append_left _ h)
        · rcases List.mem_cons.1 h with rfl | h
          · exact .inr ⟨c, hc, hb⟩
          · exact .inl (List.mem_append_right _ h)
      · exact .inr h
    cases hcu : cur with
    | none =>
      rw [if_pos (by rfl)]
      exact take _ (Fr.refl _ _) _ fun h8 f8 s8 o8 => done h7 (Fr.refl _ _) h8 f8 s8 o8 fun c h => by rw [hcu] at h; cases h
    | some c =>
      obtain ⟨hcS, hko⟩ := hcur c hcu
      subst hko
      rw [if_neg (by simp)]
      have ox := oc7 cx hcx
      have oy := oc7 c hcS
      refine nn_mk (ldI_mk (ox.cells.at0 rfl) ?_)
      show nn (some c.p) _
      refine nn_mk (ldI_mk (oy.cells.at0 rfl) ?_)
      refine ifD (fun e => ?_) fun e => ?_
      · exact take _ (Fr.refl _ _) _ fun h8 f8 s8 o8 => done h7 (Fr.refl _ _) h8 f8 s8 o8 fun c' h => by rw [hcu] at h; cases h; unfold bef befK; rw [decide_eq_true e]; rfl
      refine nn_mk (ldI_mk (ox.cells.at0 rfl) ?_)
      refine nn_mk (ldI_mk (oy.cells.at0 rfl) ?_)
      rw [hcu] at keep
      refine ifE (fun e2 => ?_) fun e2 => ?_
      · refine (ldI_mk (o5.cells.at0 rfl) (ldI_mk (o5.cells.at rfl) (ldI_mk (o5.cells.at rfl) (ldI_mk (o5.cells.at rfl) (ldI_mk (o5.cells.at rfl) (ldB_mk (o5.cells.at rfl) (ldI_mk (o5.cells.at rfl) (ldI_mk (o5.cells.at rfl) (ldB_mk (o5.cells.at rfl) (ldI_mk (o5.cells.at rfl) (ldI_mk (o5.cells.at rfl) ?_)))))))))))
        refine (ldI_mk (o3.cells.at0 rfl) (ldI_mk (o3.cells.at rfl) (ldI_mk (o3.cells.at rfl) (ldI_mk (o3.cells.at rfl) (ldI_mk (o3.cells.at rfl) (ldB_mk (o3.cells.at rfl) (ldI_mk (o3.cells.at rfl) (ldI_mk (o3.cells.at rfl) (ldB_mk (o3.cells.at rfl) (ldI_mk (o3.cells.at rfl) (ldI_mk (o3.cells.at rfl) ?_)))))))))))
        refine compare_c cx.key c.key fun h8 f8 => ⟨_, rfl, ?_⟩
        refine ifD (fun e3 => ?_) fun e3 => ?_
        · refine take h8 f8 _ fun h9 f9 s9 o9 => done h8 f8 h9 f9 s9 o9 fun c' h => ?_
          rw [hcu] at h; cases h
          unfold bef befK
          rw [(cmpK_neg _ _).1 e3, decide_eq_true e2]; simp
        · refine keep h8 c rfl f8 ?_
          have : lessK cx.key c.key = false := by
            cases hl : lessK cx.key c.key with
            | false => rfl
            | true => exact absurd ((cmpK_neg _ _).2 hl) e3
          unfold bef befK
          rw [this, decide_eq_false e]; simp
      · exact keep h7 c rfl (Fr.refl _ _) (by unfold bef befK; rw [decide_eq_false e, decide_eq_false e2]; rfl)
end Go.Proofs.Ytfcnplakgmdfiaa
