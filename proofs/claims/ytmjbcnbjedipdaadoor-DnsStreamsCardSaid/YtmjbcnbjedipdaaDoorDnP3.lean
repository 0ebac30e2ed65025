/-
  The messages of layer 29: the plain laws, and the laws.
-/
import Derived.Test.YtmjbcnbjedipdaaDoorDnP2
/-!
  Names as lists of labels.
-/
namespace Go.Proofs.YtmjbcnbjedipdaaDoor
set_option linter.unusedSimpArgs false
set_option linter.unusedVariables false
set_option maxRecDepth 20000
open Go
open Go.IntKind (wrap)
def joinD : List Nm → Nm
  | [] => []
  | [x] => x
  | x :: y :: l => x ++ 46 :: joinD (y :: l)
/-- Labels that a name may have, in small letters. -/
def LabL (ls : List Nm) : Prop := ∀ x ∈ ls, labelB x = true ∧ lowL x = x
theorem LabL.tail {x : Nm} {l : List Nm} (h : LabL (x :: l)) : LabL l := fun y hy => h y (List.mem_cons_of_mem _ hy)
theorem LabL.head {x : Nm} {l : List Nm} (h : LabL (x :: l)) : labelB x = true ∧ lowL x = x := h x (List.mem_cons_self ..)
theorem lab_ne {x : Nm} (h : labelB x = true) : x ≠ [] := by
  unfold labelB at h; simp only [Bool.and_eq_true, decide_eq_true_eq] at h; exact h.1.1
theorem lab_len {x : Nm} (h : labelB x = true) : x.length ≤ 63 := by
  unfold labelB at h; simp only [Bool.and_eq_true, decide_eq_true_eq] at h; exact h.1.2
theorem lab_all {x : Nm} (h : labelB x = true) : ∀ b ∈ x, letterB b = true := by
  unfold labelB at h; simp only [Bool.and_eq_true, decide_eq_true_eq, List.all_eq_true] at h; exact h.2
theorem lab_nodot {x : Nm} (h : labelB x = true) : ∀ b ∈ x, b ≠ 46 := fun b hb e => by
  have := lab_all h b hb
  subst e
  exact absurd this (by decide)
theorem lab_mk {x : Nm} (h0 : x ≠ []) (h1 : x.length ≤ 63) (h2 : ∀ b ∈ x, letterB b = true) : labelB x = true := by
  unfold labelB; simp only [Bool.and_eq_true, decide_eq_true_eq, List.all_eq_true]; exact ⟨⟨h0, h1⟩, h2⟩
theorem smallI_idem (c : Int) : smallI (smallI c) = smallI c := by
  unfold smallI
  by_cases h : 65 ≤ c ∧ c ≤ 90
  · rw [if_pos h, if_neg (by omega)]
  · rw [if_neg h, if_neg h]
theorem letterI_small {c : Int} (h : letterI c = true) : letterI (smallI c) = true := by
  unfold letterI smallI at *
  rw [decide_eq_true_eq] at h ⊢
  split <;> omega
theorem lowB_idem (b : UInt8) : lowB (lowB b) = lowB b := byteI_inj (by rw [byteI_low, byteI_low, smallI_idem])
theorem letterB_low {b : UInt8} (h : letterB b = true) : letterB (lowB b) = true := by
  unfold letterB at *; rw [byteI_low]; exact letterI_small h
theorem lowL_idem (l : Nm) : lowL (lowL l) = lowL l := by
  unfold lowL; rw [List.map_map]; exact List.map_congr_left fun b _ => lowB_idem b
theorem lowL_append (a b : Nm) : lowL (a ++ b) = lowL a ++ lowL b := by unfold lowL; rw [List.map_append]
theorem lab_low {x : Nm} (h : labelB x = true) : labelB (lowL x) = true := by
  refine lab_mk ?_ (by rw [lowL_len]; exact lab_len h) fun b hb => ?_
  · have := lab_ne h
    intro e; exact this (List.map_eq_nil_iff.1 e)
  · obtain ⟨c, hc, rfl⟩ := List.mem_map.1 hb
    exact letterB_low (lab_all h c hc)
theorem cut_nodot : ∀ {x : Nm}, (∀ b ∈ x, b ≠ 46) → cutDot x = (x, [], false)
  | [], _ => rfl
  | c :: x, h => by
    have ih := cut_nodot (x := x) fun b hb => h b (List.mem_cons_of_mem _ hb)
    unfold cutDot
    rw [if_neg (h c (List.mem_cons_self ..)), ih]
theorem cut_at : ∀ {x : Nm} (r : Nm), (∀ b ∈ x, b ≠ 46) → cutDot (x ++ 46 :: r) = (x, r, true)
  | [], r, _ => by rw [List.nil_append]; unfold cutDot; rw [if_pos rfl]
  | c :: x, r, h => by
    have ih := cut_at (x := x) r fun b hb => h b (List.mem_cons_of_mem _ hb)
    rw [List.cons_append]
    unfold cutDot
    rw [if_neg (h c (List.mem_cons_self ..)), ih]
theorem join_ne {x : Nm} {l : List Nm} (h : LabL (x :: l)) : joinD (x :: l) ≠ [] := by
  have := lab_ne h.head.1
  cases l with
  | nil => exact this
  | cons y l => intro e; exact this (List.append_eq_nil_iff.1 e).1
theorem cut_join {x : Nm} {l : List Nm} (h : LabL (x :: l)) : (cutDot (joinD (x :: l))).1 = x ∧ (cutDot (joinD (x :: l))).2.1 = joinD l := by
  have hd := lab_nodot h.head.1
  cases l with
  | nil => show (cutDot x).1 = x ∧ (cutDot x).2.1 = []; rw [cut_nodot hd]; exact ⟨rfl, rfl⟩
  | cons y l => show (cutDot (x ++ 46 :: joinD (y :: l))).1 = x ∧ (cutDot (x ++ 46 :: joinD (y :: l))).2.1 = _; rw [cut_at _ hd]; exact ⟨rfl, rfl⟩
theorem split_join : ∀ {l : List Nm}, LabL l → l ≠ [] → splitDot (joinD l) = l
  | [], _, h => absurd rfl h
  | [x], h, _ => splitDot_nodot x (lab_nodot h.head.1)
  | x :: y :: l, h, _ => by
    show splitDot (x ++ 46 :: joinD (y :: l)) = _
    rw [splitDot_cut x _ (lab_nodot h.head.1), split_join h.tail (by simp)]
theorem join_inj {l m : List Nm} (hl : LabL l) (hm : LabL m) (e : joinD l = joinD m) : l = m := by
  cases l with
  | nil =>
    cases m with
    | nil => rfl
    | cons y m => exact absurd e.symm (join_ne hm)
  | cons x l =>
    cases m with
    | nil => exact absurd e (join_ne hl)
    | cons y m => rw [← split_join hl (by simp), ← split_join hm (by simp), e]
theorem join_split : ∀ l : Nm, joinD (splitDot l) = l
  | [] => rfl
  | c :: l => by
    have ih := join_split l
    have hne := splitDot_ne l
    unfold splitDot
    by_cases h : c = 46
    · rw [if_pos h]
      cases hs : splitDot l with
      | nil => exact absurd hs hne
      | cons x xs => show [] ++ 46 :: joinD (x :: xs) = _; rw [← hs, ih, h]; rfl
    · rw [if_neg h]
      cases hs : splitDot l with
      | nil => exact absurd hs hne
      | cons x xs =>
        rw [hs] at ih
        rw [← ih]
        cases xs with
        | nil => rfl
        | cons y ys => rfl
/-- What holds of a name: its labels. -/
theorem name_labs {n : Nm} (h : isNameB n = true) : ∃ ls, lowL n = joinD ls ∧ LabL ls ∧ ls.length ≤ 24 ∧ (lowL n).length ≤ 253 := by
  unfold isNameB at h
  by_cases h0 : n = []
  · subst h0; exact ⟨[], rfl, fun x hx => (List.not_mem_nil hx).elim, by simp, by simp [lowL]⟩
  · rw [decide_eq_false h0, Bool.false_or] at h
    simp only [Bool.and_eq_true, decide_eq_true_eq, List.all_eq_true] at h
    refine ⟨splitDot (lowL n), (join_split _).symm, fun x hx => ?_, ?_, by rw [lowL_len]; exact h.1.1⟩
    · rw [splitDot_low] at hx
      obtain ⟨y, hy, rfl⟩ := List.mem_map.1 hx
      exact ⟨lab_low (h.2 y hy), lowL_idem y⟩
    · rw [splitDot_low, List.length_map]; exact h.1.2
theorem labs_name {ls : List Nm} (h : LabL ls) (h1 : ls.length ≤ 24) (h2 : (joinD ls).length ≤ 253) : isNameB (joinD ls) = true := by
  unfold isNameB
  cases ls with
  | nil => rfl
  | cons x l =>
    rw [split_join h (by simp)]
    simp only [Bool.or_eq_true, Bool.and_eq_true, decide_eq_true_eq, List.all_eq_true]
    exact .inr ⟨⟨h2, h1⟩, fun y hy => (h y hy).1⟩
theorem join_low : ∀ {ls : List Nm}, LabL ls → lowL (joinD ls) = joinD ls
  | [], _ => rfl
  | [x], h => h.head.2
  | x :: y :: l, h => by
    show lowL (x ++ 46 :: joinD (y :: l)) = x ++ 46 :: joinD (y :: l)
    have e : lowL (46 :: joinD (y :: l)) = 46 :: lowL (joinD (y :: l)) := rfl
    rw [lowL_append, e, join_low h.tail, h.head.2]
/-! ### Names as they are read -/
def catD (out : Nm) : List Nm → Nm
  | [] => out
  | x :: l => catD (grow out x) l
theorem grow_len (out x : Nm) : (grow out x).length = out.length + min out.length 1 + x.length := by
  unfold grow
  rw [List.length_append]
  split
  · rename_i h; subst h; simp
  · rename_i h
    have : 0 < out.length := List.length_pos_iff.2 h
    simp; omega
theorem catD_len : ∀ (l : List Nm) (out : Nm), out.length ≤ (catD out l).length
  | [], _ => Nat.le_refl _
  | x :: l, out => by
    have := catD_len l (grow out x)
    rw [grow_len] at this
    show _ ≤ (catD (grow out x) l).length
    omega
theorem catD_out : ∀ (l : List Nm) (out : Nm), out ≠ [] → LabL l → catD out l = if l = [] then out else out ++ 46 :: joinD l
  | [], _, _, _ => rfl
  | x :: l, out, h, hl => by
    have hg : grow out x = out ++ 46 :: x := by unfold grow; rw [if_neg h]; simp
    show catD (grow out x) l = _
    rw [catD_out l (grow out x) (by rw [hg]; simp) hl.tail, hg]
    cases l with
    | nil => rw [if_pos rfl, if_neg (by simp)]; rfl
    | cons y l => rw [if_neg (by simp), if_neg (by simp)]; show _ = out ++ 46 :: (x ++ 46 :: joinD (y :: l)); simp
theorem catD_join {l : List Nm} (hl : LabL l) : catD [] l = joinD l := by
  cases l with
  | nil => rfl
  | cons x l =>
    have hg : grow [] x = x := by unfold grow; rw [if_pos rfl]; rfl
    show catD (grow [] x) l = _
    rw [hg, catD_out l x (lab_ne hl.head.1) hl.tail]
    cases l with
    | nil => rfl
    | cons y l => rw [if_neg (by simp)]; rfl
end Go.Proofs.YtmjbcnbjedipdaaDoor
/-!
  What a written name is in the bytes, and that it reads back.
-/
namespace Go.Proofs.YtmjbcnbjedipdaaDoor
set_option linter.unusedSimpArgs false
set_option linter.unusedVariables false
set_option maxRecDepth 20000
open Go
open Go.IntKind (wrap)
/-- From a on stands a name of these labels, its pointers below bg; it needs j jumps, and ends at e. -/
inductive WrE (s : Nm) : Nat → List Nm → Nat → Nat → Nat → Prop
  | nil {bg a : Nat} (h : s[a]? = some 0) : WrE s 0 [] bg a (a + 1)
  | lab {j : Nat} {x : Nm} {l : List Nm} {bg a e : Nat} (h0 : s[a]? = some (UInt8.ofNat x.length)) (h1 : (s.drop (a + 1)).take x.length = x) (r : WrE s j l bg (a + 1 + x.length) e) : WrE s j (x :: l) bg a e
  | ptr {j : Nat} {x : Nm} {l : List Nm} {bg a t e : Nat} (h0 : s[a]? = some (UInt8.ofNat (192 + t / 256))) (h1 : s[a + 1]? = some (UInt8.ofNat (t % 256))) (hb : t < bg) (ht : t < 16384) (r : WrE s j (x :: l) t t e) : WrE s (j + 1) (x :: l) bg a (a + 2)
theorem get_app {s : Nm} {a : Nat} {v : UInt8} (t : Nm) (h : s[a]? = some v) : (s ++ t)[a]? = some v := by
  rw [List.getElem?_append_left (List.getElem?_eq_some_iff.1 h).1]; exact h
theorem part_app {s x : Nm} {a : Nat} (t : Nm) (h : (s.drop a).take x.length = x) : ((s ++ t).drop a).take x.length = x := by
  have hl := congrArg List.length h
  rw [List.length_take, List.length_drop] at hl
  rw [List.drop_append, List.take_append, h]
  have : x.length - (s.drop a).length = 0 := by rw [List.length_drop]; omega
  rw [this, List.take_zero, List.append_nil]
theorem WrE.app {s : Nm} {j : Nat} {l : List Nm} {bg a e : Nat} (t : Nm) (w : WrE s j l bg a e) : WrE (s ++ t) j l bg a e := by
  induction w with
  | nil h => exact .nil (get_app t h)
  | lab h0 h1 _ ih => exact .lab (get_app t h0) (part_app t h1) ih
  | ptr h0 h1 hb ht _ ih => exact .ptr (get_app t h0) (get_app t h1) hb ht ih
theorem WrE.mono {s : Nm} {j : Nat} {l : List Nm} {bg a e : Nat} (w : WrE s j l bg a e) : ∀ {bg' : Nat}, bg ≤ bg' → WrE s j l bg' a e := by
  induction w with
  | nil h => intro _ _; exact .nil h
  | lab h0 h1 _ ih => intro _ hb; exact .lab h0 h1 (ih hb)
  | ptr h0 h1 hb ht r _ => intro _ hb'; exact .ptr h0 h1 (Nat.lt_of_lt_of_le hb hb') ht r
theorem labelE_ok {s : Nm} : ∀ (x : Nm) (a : Nat), (s.drop a).take x.length = x → (∀ b ∈ x, letterB b = true) → labelE s a x.length = none
  | [], _, _, _ => rfl
  | c :: x, a, h, hb => by
    have hlt : a < s.length := by
      have hl := congrArg List.length h
      rw [List.length_take, List.length_drop, List.length_cons] at hl
      omega
    rw [List.drop_eq_getElem_cons hlt, List.length_cons, List.take_succ_cons] at h
    injection h with h1 h2
    rw [List.length_cons, labelE_succ, dif_pos hlt, h1, if_pos (hb c (List.mem_cons_self ..))]
    exact labelE_ok x (a + 1) h2 fun b hm => hb b (List.mem_cons_of_mem _ hm)
theorem ofN {n : Nat} (h : n < 256) : (UInt8.ofNat n).toNat = n := by rw [UInt8.toNat_ofNat']; exact Nat.mod_eq_of_lt h
/-- What is written reads back. -/
theorem WrE.read {s : Nm} {j : Nat} {l : List Nm} {bg a e : Nat} (w : WrE s j l bg a e) : ∀ (jumps count : Nat) (out : Nm) (en : Option Nat), LabL l → jumps + j ≤ 24 → count + l.length ≤ 24 → (catD out l).length ≤ 253 → nameS s a bg jumps count out en = .ok (catD out l) (en.getD e) := by
  induction w with
  | nil h =>
    intro jumps count out en _ _ _ _
    obtain ⟨hlt, he⟩ := List.getElem?_eq_some_iff.1 h
    exact nameS_end hlt (by rw [he]; rfl)
  | @lab j x l bg a e h0 h1 r ih =>
    intro jumps count out en hl hj hc hlen
    obtain ⟨hlt, he⟩ := List.getElem?_eq_some_iff.1 h0
    have hx := hl.head
    have h63 := lab_len hx.1
    have hpos : 0 < x.length := List.length_pos_iff.2 (lab_ne hx.1)
    have hv : s[a].toNat = x.length := by rw [he]; exact ofN (by omega)
    rw [List.length_cons] at hc
    have hlen : (catD (grow out x) l).length ≤ 253 := hlen
    have hg := catD_len l (grow out x)
    rw [grow_len] at hg
    rw [nameS_label hlt (by omega) (by omega), hv, if_neg (by omega), labelE_ok x (a + 1) h1 (lab_all hx.1), h1, hx.2]
    exact ih jumps (count + 1) (grow out x) en hl.tail hj (by omega) hlen
  | @ptr j x l bg a t e h0 h1 hb ht r ih =>
    intro jumps count out en hl hj hc hlen
    obtain ⟨hlt, he⟩ := List.getElem?_eq_some_iff.1 h0
    obtain ⟨hlt1, he1⟩ := List.getElem?_eq_some_iff.1 h1
    have hv : s[a].toNat = 192 + t / 256 := by rw [he]; exact ofN (by omega)
    have hv1 : s[a + 1].toNat = t % 256 := by rw [he1]; exact ofN (by omega)
    rw [nameS_jump hlt (by omega) hlt1]
    have e0 : s[a].toNat % 64 * 256 + s[a + 1].toNat = t := by rw [hv, hv1]; omega
    rw [e0, if_neg (by omega), ih (jumps + 1) count out (some (en.getD (a + 2))) hl (by omega) hc hlen]
    rfl
/-- A suffix that was written. -/
def EntW (out : Nm) (x : Nm × Nat) : Prop := x.2 < 16384 ∧ x.2 < out.length ∧ ∃ ls j e, x.1 = joinD ls ∧ LabL ls ∧ j + 1 ≤ ls.length ∧ WrE out j ls x.2 x.2 e
theorem EntW.app {out : Nm} {x : Nm × Nat} (t : Nm) (h : EntW out x) : EntW (out ++ t) x := by
  obtain ⟨h1, h2, ls, j, e, h3, h4, h5, h6⟩ := h
  exact ⟨h1, by rw [List.length_append]; omega, ls, j, e, h3, h4, h5, h6.app t⟩
theorem be1 {n : Nat} (h : n < 256) : beB 1 n = [UInt8.ofNat n] := by
  show [] ++ [UInt8.ofNat (n % 256)] = _
  rw [Nat.mod_eq_of_lt h]; rfl
theorem be2 {n : Nat} (h : n < 65536) : beB 2 n = [UInt8.ofNat (n / 256), UInt8.ofNat (n % 256)] := by
  show beB 1 (n / 256) ++ [UInt8.ofNat (n % 256)] = _
  rw [be1 (by omega)]; rfl
theorem nameW_wr (short : Bool) : ∀ (ls : List Nm) (out : Nm) (S : List (Nm × Nat)) (bg : Nat), LabL ls → bg ≤ out.length → (short = true → ∀ x ∈ S, x.1.length ≤ (joinD ls).length → EntW out x ∧ x.2 < bg) →
    ∃ w j, (nameW short (joinD ls) out S).1 = out ++ w ∧ j ≤ ls.length ∧ WrE (out ++ w) j ls bg out.length (out ++ w).length ∧ ∃ M, (nameW short (joinD ls) out S).2 = S ++ M ∧ ∀ x ∈ M, EntW (out ++ w) x
  | [], out, S, bg, _, _, _ => by
    refine ⟨[0], 0, ?_, Nat.le_refl _, ?_, [], ?_, fun x hx => (List.not_mem_nil hx).elim⟩
    · show (nameW short [] out S).1 = _; rw [nameW_nil]; rfl
    · have : (out ++ [(0 : UInt8)]).length = out.length + 1 := by simp
      rw [this]; exact .nil (by simp)
    · show (nameW short [] out S).2 = _; rw [nameW_nil, List.append_nil]
  | x :: l, out, S, bg, hl, hbg, hS => by
    have hne := join_ne hl
    cases hlk : (if short = true then lookN S (joinD (x :: l)) else none) with
    | some a =>
      have hsh : short = true := by
        cases hs : short with
        | true => rfl
        | false => rw [hs, if_neg Bool.false_ne_true] at hlk; cases hlk
      rw [hsh, if_pos rfl] at hlk
      have hm := lookN_mem hlk
      obtain ⟨⟨h1, h2, ls, j, e, h3, h4, h5, h6⟩, h7⟩ := hS hsh _ hm (Nat.le_refl _)
      simp only at h1 h2 h3 h6 h7
      have := join_inj hl h4 h3
      subst this
      have hb := be2 (n := 49152 + a) (by omega)
      have e1 : (49152 + a) / 256 = 192 + a / 256 := by omega
      have e2 : (49152 + a) % 256 = a % 256 := by omega
      rw [e1, e2] at hb
      refine ⟨beB 2 (49152 + a), j + 1, ?_, h5, ?_, [], ?_, fun x hx => (List.not_mem_nil hx).elim⟩
      · rw [nameW_hit hne (by rw [hsh, if_pos rfl]; exact hlk)]
      · have hlen : (out ++ beB 2 (49152 + a)).length = out.length + 2 := by rw [List.length_append, beB_len]
        rw [hlen]
        refine .ptr ?_ ?_ h7 h1 (h6.app _)
        · rw [hb]; simp
        · rw [hb, List.getElem?_append_right (by omega)]; simp
      · rw [nameW_hit hne (by rw [hsh, if_pos rfl]; exact hlk), List.append_nil]
    | none =>
      obtain ⟨c1, c2⟩ := cut_join hl
      have hrest := (cut_rest _ hne).1
      rw [c2] at hrest
      have h63 := lab_len hl.head.1
      have hb := be1 (n := x.length) (by omega)
      have hmiss := nameW_miss (out := out) hne hlk
      rw [c1, c2, hb] at hmiss
      have hl1 : (out ++ [UInt8.ofNat x.length] ++ x).length = out.length + 1 + x.length := by simp only [List.length_append, List.length_singleton]
      have hin : ∀ y ∈ (if short = true ∧ out.length < 16384 then S ++ [(joinD (x :: l), out.length)] else S), y ∈ S ∨ (y = (joinD (x :: l), out.length) ∧ out.length < 16384) := fun y hy => by
        split at hy
        · rename_i hc
          rcases List.mem_append.1 hy with h | h
          · exact .inl h
          · exact .inr ⟨List.mem_singleton.1 h, hc.2⟩
        · exact .inl hy
      obtain ⟨w, j, hw, hj, hwr, M, hM, hMe⟩ := nameW_wr short l (out ++ [UInt8.ofNat x.length] ++ x) (if short = true ∧ out.length < 16384 then S ++ [(joinD (x :: l), out.length)] else S) bg hl.tail (by omega) fun hsh y hy hyl => by
        rcases hin y hy with h | ⟨h, _⟩
        · obtain ⟨g1, g2⟩ := hS hsh y h (by omega)
          rw [List.append_assoc]
          exact ⟨g1.app _, g2⟩
        · subst h; simp only at hyl; omega
      have hall : out ++ [UInt8.ofNat x.length] ++ x ++ w = out ++ ([UInt8.ofNat x.length] ++ x ++ w) := by simp
      have lab : WrE (out ++ ([UInt8.ofNat x.length] ++ x ++ w)) j (x :: l) bg out.length (out ++ ([UInt8.ofNat x.length] ++ x ++ w)).length := by
        rw [← hall]
        refine .lab ?_ ?_ ?_
        · simp
        · rw [List.append_assoc, List.append_assoc, List.drop_append, List.drop_eq_nil_of_le (by omega)]
          have : out.length + 1 - out.length = 1 := by omega
          rw [this]; simp
        · rw [← hl1]; exact hwr
      refine ⟨[UInt8.ofNat x.length] ++ x ++ w, j, ?_, by rw [List.length_cons]; omega, lab, ?_⟩
      · rw [hmiss, hw, hall]
      · by_cases hc : short = true ∧ out.length < 16384
        · rw [if_pos hc] at hM hmiss
          refine ⟨(joinD (x :: l), out.length) :: M, by rw [hmiss, hM]; simp, fun y hy => ?_⟩
          rcases List.mem_cons.1 hy with rfl | hy
          · exact ⟨hc.2, by simp, x :: l, j, _, rfl, hl, by rw [List.length_cons]; omega, lab.mono hbg⟩
          · rw [← hall]; exact hMe y hy
        · rw [if_neg hc] at hM hmiss
          exact ⟨M, by rw [hmiss, hM], fun y hy => by rw [← hall]; exact hMe y hy⟩
/-- A name that is written reads back. -/
theorem nm_written (short : Bool) {n : Nm} (hn : isNameB n = true) (out : Nm) (S : List (Nm × Nat)) (hS : short = true → ∀ x ∈ S, EntW out x) :
    ∃ w, (nameW short (lowL n) out S).1 = out ++ w ∧ (∀ t, nm (out ++ w ++ t) out.length = .ok (lowL n) (out ++ w).length) ∧ (short = true → ∀ x ∈ (nameW short (lowL n) out S).2, EntW (out ++ w) x) := by
  obtain ⟨ls, h1, h2, h3, h4⟩ := name_labs hn
  rw [h1] at h4 ⊢
  obtain ⟨w, j, hw, hj, hwr, M, hM, hMe⟩ := nameW_wr short ls out S out.length h2 (Nat.le_refl _) fun hs x hx _ => ⟨hS hs x hx, (hS hs x hx).2.1⟩
  refine ⟨w, hw, fun t => ?_, fun hs x hx => ?_⟩
  · have := (hwr.app t).read 0 0 [] none h2 (by omega) (by omega) (by rw [catD_join h2]; exact h4)
    rw [catD_join h2] at this
    exact this
  · rw [hM] at hx
    rcases List.mem_append.1 hx with h | h
    · exact (hS hs x h).app w
    · exact hMe x h
end Go.Proofs.YtmjbcnbjedipdaaDoor
/-!
  What a written message reads as.
-/
namespace Go.Proofs.YtmjbcnbjedipdaaDoor
set_option linter.unusedSimpArgs false
set_option linter.unusedVariables false
set_option maxRecDepth 20000
open Go
open Go.IntKind (wrap)
theorem mid (A B C : Nm) {a k : Nat} (ha : a = A.length) (hk : k = B.length) : ((A ++ B ++ C).drop a).take k = B := by
  subst ha hk
  rw [List.append_assoc, List.drop_append, List.drop_length, Nat.sub_self]; simp
theorem num_mid (A C : Nm) (k n : Nat) {a : Nat} (ha : a = A.length) (hn : n < 256 ^ k) : num (A ++ beB k n ++ C) a k = n := by
  unfold num
  rw [mid A (beB k n) C ha (beB_len k n).symm, valB_be, Nat.mod_eq_of_lt hn]
def Good (short : Bool) (w : Nm × List (Nm × Nat)) : Prop := short = true → ∀ e ∈ w.2, EntW w.1 e
theorem Good.app {short : Bool} {o : Nm} {S : List (Nm × Nat)} (h : Good short (o, S)) (t : Nm) : Good short (o ++ t, S) := fun hs e he => (h hs e he).app t
/-- A step of the writer that the reader takes back. -/
def Step {α : Type} (short : Bool) (f : Nm × List (Nm × Nat) → α → Nm × List (Nm × Nat)) (g : Nm → Nat → Rs α) (m : α → α) (x : α) : Prop :=
  ∀ w, Good short w → ∃ v, (f w x).1 = w.1 ++ v ∧ (∀ t, g (w.1 ++ v ++ t) w.1.length = .ok (m x) (w.1 ++ v).length) ∧ Good short (w.1 ++ v, (f w x).2)
theorem many_written {α : Type} {short : Bool} {f : Nm × List (Nm × Nat) → α → Nm × List (Nm × Nat)} {g : Nm → Nat → Rs α} {m : α → α} : ∀ (xs : List α), (∀ x ∈ xs, Step short f g m x) → ∀ w, Good short w →
    ∃ v, (xs.foldl f w).1 = w.1 ++ v ∧ (∀ t, manyS (g (w.1 ++ v ++ t)) xs.length w.1.length = .ok (xs.map m) (w.1 ++ v).length) ∧ Good short (w.1 ++ v, (xs.foldl f w).2)
  | [], _, w, hg => ⟨[], by simp, fun t => by rw [List.append_nil]; rfl, by rw [List.append_nil]; exact hg⟩
  | x :: xs, hs, w, hg => by
    obtain ⟨v, h1, h2, h3⟩ := hs x (List.mem_cons_self ..) w hg
    rw [← h1] at h3
    obtain ⟨v2, g1, g2, g3⟩ := many_written xs (fun y hy => hs y (List.mem_cons_of_mem _ hy)) (f w x) h3
    rw [h1] at g1 g2 g3
    have e : w.1 ++ (v ++ v2) = w.1 ++ v ++ v2 := (List.append_assoc ..).symm
    refine ⟨v ++ v2, by rw [List.foldl_cons, g1, e], fun t => ?_, by rw [e, List.foldl_cons]; exact g3⟩
    have e2 : w.1 ++ (v ++ v2) ++ t = w.1 ++ v ++ (v2 ++ t) := by simp
    have k1 := h2 (v2 ++ t)
    rw [← e2] at k1
    have k2 := g2 t
    rw [← e] at k2
    rw [List.length_cons, List.map_cons]
    unfold manyS
    rw [k1]
    simp only
    rw [k2]
theorem qE_full {q : Qu} (h : qE q = 0) : isNameB q.Name = true ∧ ∃ k : Nat, q.Type_ = k ∧ k < 65536 := by
  unfold qE at h
  split at h
  · exact absurd h (by decide)
  · rename_i h1
    split at h
    · exact absurd h (by decide)
    · rename_i h2
      exact ⟨by simpa using h1, word_ok (by simpa using h2)⟩
theorem q_written (short : Bool) (q : Qu) (hq : qE q = 0) : Step short (qW short) questionS smQ q := by
  intro w hg
  obtain ⟨hn, k, hk, hkl⟩ := qE_full hq
  obtain ⟨v, h1, h2, h3⟩ := nm_written short hn w.1 w.2 hg
  have e1 : (qW short w q).1 = w.1 ++ v ++ beB 2 k ++ beB 2 1 := by unfold qW; rw [h1, hk]; rfl
  have e2 : (qW short w q).2 = (nameW short (lowL q.Name) w.1 w.2).2 := rfl
  refine ⟨v ++ beB 2 k ++ beB 2 1, by rw [e1]; simp, fun t => ?_, ?_⟩
  · have e : w.1 ++ (v ++ beB 2 k ++ beB 2 1) ++ t = w.1 ++ v ++ (beB 2 k ++ beB 2 1 ++ t) := by simp
    have n1 := num_mid (w.1 ++ v) (beB 2 1 ++ t) 2 k rfl hkl
    have n2 := num_mid (w.1 ++ v ++ beB 2 k) t 2 1 rfl (by decide)
    have e3 : w.1 ++ v ++ beB 2 k ++ (beB 2 1 ++ t) = w.1 ++ v ++ (beB 2 k ++ beB 2 1 ++ t) := by simp
    have e4 : w.1 ++ v ++ beB 2 k ++ beB 2 1 ++ t = w.1 ++ v ++ (beB 2 k ++ beB 2 1 ++ t) := by simp
    rw [e3] at n1
    rw [e4] at n2
    have e5 : (w.1 ++ v ++ beB 2 k).length = (w.1 ++ v).length + 2 := by rw [List.length_append, beB_len]
    rw [e5] at n2
    have hl : (w.1 ++ v ++ (beB 2 k ++ beB 2 1 ++ t)).length = (w.1 ++ v).length + (4 + t.length) := by simp only [List.length_append, beB_len]
    have hl2 : (w.1 ++ (v ++ beB 2 k ++ beB 2 1)).length = (w.1 ++ v).length + 4 := by simp only [List.length_append, beB_len]; omega
    rw [e]
    unfold questionS
    rw [h2]
    simp only
    rw [if_neg (by omega), if_neg (by omega), n1, hl2]
    have : smQ q = ⟨lowL q.Name, (k : Int)⟩ := by unfold smQ; rw [← hk]
    rw [this]
  · intro hs x hx
    have := (h3 hs x hx).app (beB 2 k ++ beB 2 1)
    have e : w.1 ++ (v ++ beB 2 k ++ beB 2 1) = w.1 ++ v ++ (beB 2 k ++ beB 2 1) := by simp
    rw [e]; exact this
theorem nameW_pre (short : Bool) : ∀ (n : Nat) (s o1 o2 : Nm) (S : List (Nm × Nat)), s.length ≤ n → o1.length = o2.length → ∃ w S', nameW short s o1 S = (o1 ++ w, S') ∧ nameW short s o2 S = (o2 ++ w, S')
  | n, s, o1, o2, S, hn, ho => by
    by_cases h : s = []
    · subst h; exact ⟨beB 1 0, S, nameW_nil .., nameW_nil ..⟩
    · cases hl : (if short = true then lookN S s else none) with
      | some a => exact ⟨_, S, nameW_hit h hl, nameW_hit h hl⟩
      | none =>
        have hr := (cut_rest s h).1
        cases n with
        | zero => omega
        | succ n =>
          obtain ⟨w, S', h1, h2⟩ := nameW_pre short n (cutDot s).2.1 (o1 ++ beB 1 (cutDot s).1.length ++ (cutDot s).1) (o2 ++ beB 1 (cutDot s).1.length ++ (cutDot s).1) (if short = true ∧ o1.length < 16384 then S ++ [(s, o1.length)] else S) (by omega) (by simp [ho])
          refine ⟨beB 1 (cutDot s).1.length ++ (cutDot s).1 ++ w, S', ?_, ?_⟩
          · rw [nameW_miss h hl, h1]; simp
          · rw [nameW_miss h hl, ← ho, h2]; simp
theorem rE_full {x : Re} (h : rE x = 0) : qE ⟨x.Name, x.Type_⟩ = 0 ∧ (∃ k : Nat, x.Ttl = k ∧ k < 4294967296) ∧ x.Data.length ≤ 65535 ∧ (skipI x.Type_ < 0 ∨ ((skipI x.Type_).toNat ≤ x.Data.length ∧ isNameB (x.Data.drop (skipI x.Type_).toNat) = true)) := by
  unfold rE at h
  split at h
  · exact absurd h (by decide)
  rename_i h1
  split at h
  · exact absurd h (by decide)
  rename_i h2
  split at h
  · exact absurd h (by decide)
  rename_i h3
  split at h
  · exact absurd h (by decide)
  rename_i h4
  have hw : wordB x.Type_ = true := by
    cases hw : wordB x.Type_ with
    | true => rfl
    | false => exact absurd (.inl hw) h2
  have ht : ¬ x.Ttl < 0 ∧ ¬ x.Ttl > 4294967295 := ⟨fun h => h2 (.inr (.inl h)), fun h => h2 (.inr (.inr h))⟩
  refine ⟨by unfold qE; rw [if_neg h1, if_neg (by simp [hw])], ⟨x.Ttl.toNat, by omega, by omega⟩, by omega, ?_⟩
  unfold namedB at h3
  by_cases hs : skipI x.Type_ < 0
  · exact .inl hs
  · rw [if_neg hs] at h3
    simp only [Bool.and_eq_false_iff, not_or, Bool.not_eq_false, decide_eq_true_eq] at h3
    exact .inr h3
theorem r_written (short : Bool) (x : Re) (hx : rE x = 0) : Step short (rW short) recordS smR x := by
  intro w hg
  obtain ⟨hq, ⟨tl, htl, htll⟩, hdl, hdv⟩ := rE_full hx
  obtain ⟨v, h1, h2, h3⟩ := q_written short ⟨x.Name, x.Type_⟩ hq w hg
  have er : rW short w x = dataW short x.Type_ x.Data ((qW short w ⟨x.Name, x.Type_⟩).1 ++ beB 4 tl) (qW short w ⟨x.Name, x.Type_⟩).2 := by
    unfold rW qW; rw [htl]; rfl
  rw [er, h1]
  have hqt : ∀ t, questionS (w.1 ++ v ++ t) w.1.length = .ok (smQ ⟨x.Name, x.Type_⟩) (w.1 ++ v).length := h2
  generalize (qW short w ⟨x.Name, x.Type_⟩).2 = S1 at *
  -- the common part of the reader
  have rd : ∀ (L : Nat) (D t : Nm), L < 65536 → L ≤ D.length + t.length → num (w.1 ++ v ++ beB 4 tl ++ beB 2 L ++ D ++ t) (w.1 ++ v).length 4 = tl ∧ num (w.1 ++ v ++ beB 4 tl ++ beB 2 L ++ D ++ t) ((w.1 ++ v).length + 4) 2 = L ∧ (w.1 ++ v).length + 6 + (D.length + t.length) = (w.1 ++ v ++ beB 4 tl ++ beB 2 L ++ D ++ t).length ∧ questionS (w.1 ++ v ++ beB 4 tl ++ beB 2 L ++ D ++ t) w.1.length = .ok (smQ ⟨x.Name, x.Type_⟩) (w.1 ++ v).length := fun L D t hL hLt => by
    have n1 := num_mid (w.1 ++ v) (beB 2 L ++ D ++ t) 4 tl rfl htll
    have n2 := num_mid (w.1 ++ v ++ beB 4 tl) (D ++ t) 2 L (a := (w.1 ++ v).length + 4) (by simp only [List.length_append, beB_len]) hL
    have n3 := hqt (beB 4 tl ++ beB 2 L ++ D ++ t)
    have e1 : w.1 ++ v ++ beB 4 tl ++ (beB 2 L ++ D ++ t) = w.1 ++ v ++ beB 4 tl ++ beB 2 L ++ D ++ t := by simp
    have e2 : w.1 ++ v ++ beB 4 tl ++ beB 2 L ++ (D ++ t) = w.1 ++ v ++ beB 4 tl ++ beB 2 L ++ D ++ t := by simp
    have e3 : w.1 ++ v ++ (beB 4 tl ++ beB 2 L ++ D ++ t) = w.1 ++ v ++ beB 4 tl ++ beB 2 L ++ D ++ t := by simp
    rw [e1] at n1
    rw [e2] at n2
    rw [e3] at n3
    refine ⟨n1, n2, ?_, n3⟩
    simp only [List.length_append, beB_len]; omega
  have o2l : (w.1 ++ v ++ beB 4 tl).length = (w.1 ++ v).length + 4 := by rw [List.length_append, beB_len]
  have hsm : smQ ⟨x.Name, x.Type_⟩ = ⟨lowL x.Name, x.Type_⟩ := rfl
  by_cases hneg : skipI x.Type_ < 0
  · -- raw data
    have ed : dataW short x.Type_ x.Data (w.1 ++ v ++ beB 4 tl) S1 = (w.1 ++ v ++ beB 4 tl ++ beB 2 x.Data.length ++ x.Data, S1) := by
      unfold dataW bodyW
      rw [if_pos hneg]
      have hl : (w.1 ++ v ++ beB 4 tl ++ beB 2 0 ++ x.Data).length - (w.1 ++ v ++ beB 4 tl).length - 2 = x.Data.length := by rw [List.length_append, List.length_append, beB_len]; omega
      simp only
      rw [hl]
      generalize w.1 ++ v ++ beB 4 tl = o
      have t1 : (o ++ beB 2 0 ++ x.Data).take o.length = o := by rw [List.append_assoc, List.take_left]
      have t2 : (o ++ beB 2 0 ++ x.Data).drop (o.length + 2) = x.Data := by
        have : o.length + 2 = (o ++ beB 2 0).length := by rw [List.length_append, beB_len]
        rw [this, List.drop_left]
      rw [t1, t2]
    rw [ed]
    refine ⟨v ++ beB 4 tl ++ beB 2 x.Data.length ++ x.Data, by simp, fun t => ?_, ?_⟩
    · obtain ⟨n1, n2, n3, n4⟩ := rd x.Data.length x.Data t (by omega) (by omega)
      have e : w.1 ++ (v ++ beB 4 tl ++ beB 2 x.Data.length ++ x.Data) = w.1 ++ v ++ beB 4 tl ++ beB 2 x.Data.length ++ x.Data := by simp
      rw [e]
      unfold recordS
      rw [n4]
      simp only
      rw [if_neg (by omega), n2, if_neg (by omega), hsm, if_pos hneg, n1]
      have hm := mid (w.1 ++ v ++ beB 4 tl ++ beB 2 x.Data.length) x.Data t (a := (w.1 ++ v).length + 6) (k := x.Data.length) (by simp only [List.length_append, beB_len]) rfl
      rw [hm]
      have hs : smR x = ⟨lowL x.Name, x.Type_, (tl : Int), x.Data⟩ := by unfold smR dataL; rw [if_pos hneg, htl]
      rw [hs]
      congr 1
      simp only [List.length_append, beB_len]
    · have := (h3.app (beB 4 tl ++ beB 2 x.Data.length ++ x.Data))
      have e : w.1 ++ (v ++ beB 4 tl ++ beB 2 x.Data.length ++ x.Data) = w.1 ++ v ++ (beB 4 tl ++ beB 2 x.Data.length ++ x.Data) := by simp
      rw [e]; exact this
  · obtain ⟨hsk, hn⟩ := hdv.resolve_left hneg
    obtain ⟨sk, hsk0⟩ : ∃ sk : Nat, skipI x.Type_ = sk := ⟨(skipI x.Type_).toNat, by omega⟩
    have hskn : (skipI x.Type_).toNat = sk := by rw [hsk0]; rfl
    have hsk2 : sk ≤ 2 := by unfold skipI at hsk0; split at hsk0 <;> (try split at hsk0) <;> omega
    rw [hskn] at hsk hn
    have hnl := (name_ok hn).1
    obtain ⟨nw, S', p1, _⟩ := nameW_pre short _ (lowL (x.Data.drop sk)) (w.1 ++ v ++ beB 4 tl ++ beB 2 0 ++ x.Data.take sk) (w.1 ++ v ++ beB 4 tl ++ beB 2 0 ++ x.Data.take sk) S1 (Nat.le_refl _) rfl
    have hwl := nameW_len short _ (lowL (x.Data.drop sk)) (w.1 ++ v ++ beB 4 tl ++ beB 2 0 ++ x.Data.take sk) S1 (Nat.le_refl _)
    rw [p1, lowL_len] at hwl
    simp only at hwl
    rw [List.length_append (bs := nw)] at hwl
    have htk : (x.Data.take sk).length = sk := by rw [List.length_take]; omega
    obtain ⟨nw2, S2, q1, q2⟩ := nameW_pre short _ (lowL (x.Data.drop sk)) (w.1 ++ v ++ beB 4 tl ++ beB 2 0 ++ x.Data.take sk) (w.1 ++ v ++ beB 4 tl ++ beB 2 (sk + nw.length) ++ x.Data.take sk) S1 (Nat.le_refl _) (by simp only [List.length_append, beB_len])
    rw [p1] at q1
    simp only [Prod.mk.injEq, List.append_cancel_left_eq] at q1
    obtain ⟨rfl, rfl⟩ := q1
    have ed : dataW short x.Type_ x.Data (w.1 ++ v ++ beB 4 tl) S1 = (w.1 ++ v ++ beB 4 tl ++ beB 2 (sk + nw.length) ++ x.Data.take sk ++ nw, S') := by
      unfold dataW bodyW
      rw [if_neg hneg, hskn, p1]
      simp only
      have hl : (w.1 ++ v ++ beB 4 tl ++ beB 2 0 ++ x.Data.take sk ++ nw).length - (w.1 ++ v ++ beB 4 tl).length - 2 = sk + nw.length := by rw [List.length_append, List.length_append, List.length_append, beB_len, htk]; omega
      rw [hl]
      generalize w.1 ++ v ++ beB 4 tl = o
      have t1 : (o ++ beB 2 0 ++ x.Data.take sk ++ nw).take o.length = o := by rw [List.append_assoc, List.append_assoc, List.take_left]
      have t2 : (o ++ beB 2 0 ++ x.Data.take sk ++ nw).drop (o.length + 2) = x.Data.take sk ++ nw := by
        have : o.length + 2 = (o ++ beB 2 0).length := by rw [List.length_append, beB_len]
        rw [List.append_assoc, this, List.drop_left]
      rw [t1, t2]; simp
    rw [ed]
    have g0 : Good short (w.1 ++ v ++ beB 4 tl ++ beB 2 (sk + nw.length) ++ x.Data.take sk, S1) := ((h3.app (beB 4 tl)).app (beB 2 (sk + nw.length))).app (x.Data.take sk)
    obtain ⟨v3, k1, k2, k3⟩ := nm_written short hn (w.1 ++ v ++ beB 4 tl ++ beB 2 (sk + nw.length) ++ x.Data.take sk) S1 g0
    rw [q2] at k1 k3
    simp only [List.append_cancel_left_eq] at k1
    subst k1
    refine ⟨v ++ beB 4 tl ++ beB 2 (sk + nw.length) ++ x.Data.take sk ++ nw, by simp, fun t => ?_, ?_⟩
    · obtain ⟨n1, n2, n3, n4⟩ := rd (sk + nw.length) (x.Data.take sk ++ nw) t (by omega) (by rw [List.length_append, htk]; omega)
      have e : w.1 ++ (v ++ beB 4 tl ++ beB 2 (sk + nw.length) ++ x.Data.take sk ++ nw) = w.1 ++ v ++ beB 4 tl ++ beB 2 (sk + nw.length) ++ (x.Data.take sk ++ nw) := by simp
      have e2 : w.1 ++ v ++ beB 4 tl ++ beB 2 (sk + nw.length) ++ x.Data.take sk ++ nw = w.1 ++ v ++ beB 4 tl ++ beB 2 (sk + nw.length) ++ (x.Data.take sk ++ nw) := by simp
      have k2 := k2 t
      rw [e2] at k2
      have e9 : (x.Data.take sk ++ nw).length = sk + nw.length := by rw [List.length_append, htk]
      rw [e9] at n3
      rw [e]
      unfold recordS
      rw [n4]
      simp only
      have hal : (w.1 ++ v ++ beB 4 tl ++ beB 2 (sk + nw.length) ++ x.Data.take sk).length = (w.1 ++ v).length + 6 + sk := by rw [List.length_append, List.length_append, o2l, beB_len, htk]
      rw [hal] at k2
      have hel : (w.1 ++ v ++ beB 4 tl ++ beB 2 (sk + nw.length) ++ (x.Data.take sk ++ nw)).length = (w.1 ++ v).length + 6 + (sk + nw.length) := by rw [List.length_append, List.length_append, o2l, beB_len, e9]
      rw [if_neg (by omega), n2, if_neg (by omega), hsm]
      simp only
      rw [if_neg hneg, hskn, if_neg (by omega), k2]
      simp only
      rw [hel, if_neg (by simp), n1]
      have hm := mid (w.1 ++ v ++ beB 4 tl ++ beB 2 (sk + nw.length)) (x.Data.take sk) (nw ++ t) (a := (w.1 ++ v).length + 6) (k := sk) (by simp only [List.length_append, beB_len]) htk.symm
      have e3 : w.1 ++ v ++ beB 4 tl ++ beB 2 (sk + nw.length) ++ x.Data.take sk ++ (nw ++ t) = w.1 ++ v ++ beB 4 tl ++ beB 2 (sk + nw.length) ++ (x.Data.take sk ++ nw) ++ t := by simp
      rw [e3] at hm
      rw [hm]
      have hs : smR x = ⟨lowL x.Name, x.Type_, (tl : Int), x.Data.take sk ++ lowL (x.Data.drop sk)⟩ := by unfold smR dataL; rw [if_neg hneg, hskn, htl]
      rw [hs]
    · intro hs y hy
      have := k3 hs y hy
      have e : w.1 ++ (v ++ beB 4 tl ++ beB 2 (sk + nw.length) ++ x.Data.take sk ++ nw) = w.1 ++ v ++ beB 4 tl ++ beB 2 (sk + nw.length) ++ x.Data.take sk ++ nw := by simp
      rw [e]; exact this
/-- Decode inverts both encodings. -/
theorem dec_enc (short : Bool) {id fl : Int} {qs : List Qu} {rs : List Re} (h : (encS short id fl qs rs).1 = 0) : decS (encS short id fl qs rs).2 = (0, smM id fl qs rs) := by
  unfold encS at h ⊢
  by_cases hc : checkS id fl qs rs ≠ 0
  · rw [if_pos hc] at h; exact absurd h hc
  rw [if_neg hc] at h ⊢
  by_cases hl : (msgW short id fl qs rs).1.length > 65535
  · rw [if_pos hl] at h; exact absurd h (by decide)
  rw [if_neg hl]
  simp only
  have hck : checkS id fl qs rs = 0 := by omega
  unfold checkS at hck
  split at hck
  · exact absurd hck (by decide)
  rename_i hn8
  split at hck
  · exact absurd hck (by decide)
  rename_i hwd
  split at hck
  · rename_i hqn; exact absurd hck hqn
  rename_i hqz
  have hqa := firstE_all (f := qE) (l := qs) (by omega)
  have hra := firstE_all (f := rE) (l := rs) hck
  obtain ⟨idn, hid, hidl⟩ := word_ok (n := id) (by cases hh : wordB id with | true => rfl | false => exact absurd (.inl hh) hwd)
  obtain ⟨fln, hfl, hfll⟩ := word_ok (n := fl) (by cases hh : wordB fl with | true => rfl | false => exact absurd (.inr hh) hwd)
  subst hid hfl
  obtain ⟨v1, a1, a2, a3⟩ := many_written (g := questionS) (m := smQ) qs (fun q hq => q_written short q (hqa q hq)) (headW idn fln qs.length rs.length, []) fun _ e he => (List.not_mem_nil he).elim
  rw [← a1] at a3
  obtain ⟨v2, b1, b2, _⟩ := many_written (g := recordS) (m := smR) rs (fun r hr => r_written short r (hra r hr)) (qs.foldl (qW short) (headW idn fln qs.length rs.length, [])) a3
  unfold msgW
  rw [b1, a1]
  rw [a1] at b2
  simp only at a2 b2 ⊢
  have b2 := b2 []
  have a2 := a2 v2
  rw [List.append_nil] at b2
  have hh : headW idn fln qs.length rs.length = beB 2 idn ++ beB 2 fln ++ beB 2 qs.length ++ beB 2 rs.length ++ beB 2 0 ++ beB 2 0 := rfl
  have hhl : (headW idn fln qs.length rs.length).length = 12 := by rw [hh]; simp only [List.length_append, beB_len]
  have nums : ∀ t, num (headW idn fln qs.length rs.length ++ t) 0 2 = idn ∧ num (headW idn fln qs.length rs.length ++ t) 2 2 = fln ∧ num (headW idn fln qs.length rs.length ++ t) 4 2 = qs.length ∧ num (headW idn fln qs.length rs.length ++ t) 6 2 = rs.length ∧ num (headW idn fln qs.length rs.length ++ t) 8 2 = 0 ∧ num (headW idn fln qs.length rs.length ++ t) 10 2 = 0 := fun t => by
    rw [hh]
    have m0 := num_mid [] (beB 2 fln ++ beB 2 qs.length ++ beB 2 rs.length ++ beB 2 0 ++ beB 2 0 ++ t) 2 idn (a := 0) rfl hidl
    have m1 := num_mid (beB 2 idn) (beB 2 qs.length ++ beB 2 rs.length ++ beB 2 0 ++ beB 2 0 ++ t) 2 fln (a := 2) (by rw [beB_len]) hfll
    have m2 := num_mid (beB 2 idn ++ beB 2 fln) (beB 2 rs.length ++ beB 2 0 ++ beB 2 0 ++ t) 2 qs.length (a := 4) (by simp only [List.length_append, beB_len]) (by omega)
    have m3 := num_mid (beB 2 idn ++ beB 2 fln ++ beB 2 qs.length) (beB 2 0 ++ beB 2 0 ++ t) 2 rs.length (a := 6) (by simp only [List.length_append, beB_len]) (by omega)
    have m4 := num_mid (beB 2 idn ++ beB 2 fln ++ beB 2 qs.length ++ beB 2 rs.length) (beB 2 0 ++ t) 2 0 (a := 8) (by simp only [List.length_append, beB_len]) (by omega)
    have m5 := num_mid (beB 2 idn ++ beB 2 fln ++ beB 2 qs.length ++ beB 2 rs.length ++ beB 2 0) t 2 0 (a := 10) (by simp only [List.length_append, beB_len]) (by omega)
    simp only [List.append_assoc, List.nil_append] at m0 m1 m2 m3 m4 m5 ⊢
    exact ⟨m0, m1, m2, m3, m4, m5⟩
  obtain ⟨m0, m1, m2, m3, m4, m5⟩ := nums (v1 ++ v2)
  rw [← List.append_assoc] at m0 m1 m2 m3 m4 m5
  have hd : decodeS (headW idn fln qs.length rs.length ++ v1 ++ v2) = .ok ⟨idn, fln, qs.map smQ, rs.map smR⟩ (headW idn fln qs.length rs.length ++ v1 ++ v2).length := by
    unfold decodeS
    rw [m0, m1, m2, m3, m4, m5, if_neg (by rw [List.length_append, List.length_append, hhl]; omega), if_neg (by omega)]
    rw [hhl] at a2
    rw [a2]
    simp only
    rw [show rs.length + 0 + 0 = rs.length from rfl, b2]
    simp
  unfold decS
  rw [hd]
  rfl
end Go.Proofs.YtmjbcnbjedipdaaDoor
/-!
  The short encoding is not longer; what is read can be written; the messages of a connection do not depend on its pieces.
-/
namespace Go.Proofs.YtmjbcnbjedipdaaDoor
set_option linter.unusedSimpArgs false
set_option linter.unusedVariables false
set_option maxRecDepth 20000
open Go
open Go.IntKind (wrap)
/-! ### Lengths -/
abbrev Wst := Nm × List (Nm × Nat)
theorem nameW_short : ∀ (n : Nat) (s o1 o2 : Nm) (S1 S2 : List (Nm × Nat)), s.length ≤ n → (nameW true s o1 S1).1.length + o2.length ≤ (nameW false s o2 S2).1.length + o1.length
  | n, s, o1, o2, S1, S2, hn => by
    by_cases h : s = []
    · subst h; rw [nameW_nil, nameW_nil]; simp only [List.length_append, beB_len]; omega
    · have hr := (cut_rest s h).1
      have hf : nameW false s o2 S2 = nameW false (cutDot s).2.1 (o2 ++ beB 1 (cutDot s).1.length ++ (cutDot s).1) S2 := by rw [nameW_miss h rfl, if_neg (by simp)]
      have hlo := (nameW_len false _ (cutDot s).2.1 (o2 ++ beB 1 (cutDot s).1.length ++ (cutDot s).1) S2 (Nat.le_refl _)).1
      simp only [List.length_append, beB_len] at hlo
      rw [hf]
      cases hl : (if true = true then lookN S1 s else none) with
      | some a => rw [nameW_hit h hl]; simp only [List.length_append, beB_len]; omega
      | none =>
        rw [nameW_miss h hl]
        cases n with
        | zero => omega
        | succ n =>
          have := nameW_short n (cutDot s).2.1 (o1 ++ beB 1 (cutDot s).1.length ++ (cutDot s).1) (o2 ++ beB 1 (cutDot s).1.length ++ (cutDot s).1) (if true = true ∧ o1.length < 16384 then S1 ++ [(s, o1.length)] else S1) S2 (by omega)
          simp only [List.length_append, beB_len] at this ⊢
          omega
theorem dataW_body (short : Bool) (k : Int) (s out : Nm) (S : List (Nm × Nat)) : (dataW short k s out S).1.length = (bodyW short k s out S).1.length ∧ out.length + 2 ≤ (bodyW short k s out S).1.length := by
  have hb : out.length + 2 ≤ (bodyW short k s out S).1.length := by
    unfold bodyW
    split
    · simp only [List.length_append, beB_len]; omega
    · have := (nameW_len short _ (lowL (s.drop (skipI k).toNat)) (out ++ beB 2 0 ++ s.take (skipI k).toNat) S (Nat.le_refl _)).1
      simp only [List.length_append, beB_len] at this
      omega
  refine ⟨?_, hb⟩
  unfold dataW
  simp only [List.length_append, beB_len, List.length_take, List.length_drop]; omega
theorem qW_short (w1 w2 : Wst) (q : Qu) : (qW true w1 q).1.length + w2.1.length ≤ (qW false w2 q).1.length + w1.1.length := by
  have := nameW_short _ (lowL q.Name) w1.1 w2.1 w1.2 w2.2 (Nat.le_refl _)
  unfold qW; simp only [List.length_append, beB_len]; omega
theorem rW_short (w1 w2 : Wst) (x : Re) : (rW true w1 x).1.length + w2.1.length ≤ (rW false w2 x).1.length + w1.1.length := by
  have h1 := nameW_short _ (lowL x.Name) w1.1 w2.1 w1.2 w2.2 (Nat.le_refl _)
  unfold rW
  generalize (nameW true (lowL x.Name) w1.1 w1.2) = a1 at *
  generalize (nameW false (lowL x.Name) w2.1 w2.2) = a2 at *
  rw [(dataW_body ..).1, (dataW_body ..).1]
  unfold bodyW
  split
  · simp only [List.length_append, beB_len]; omega
  · have := nameW_short _ (lowL (x.Data.drop (skipI x.Type_).toNat)) (a1.1 ++ beB 2 x.Type_.toNat ++ beB 2 1 ++ beB 4 x.Ttl.toNat ++ beB 2 0 ++ x.Data.take (skipI x.Type_).toNat) (a2.1 ++ beB 2 x.Type_.toNat ++ beB 2 1 ++ beB 4 x.Ttl.toNat ++ beB 2 0 ++ x.Data.take (skipI x.Type_).toNat) a1.2 a2.2 (Nat.le_refl _)
    simp only [List.length_append, beB_len] at this ⊢
    omega
theorem fold_short {α : Type} {f g : Wst → α → Wst} (h : ∀ w1 w2 x, (f w1 x).1.length + w2.1.length ≤ (g w2 x).1.length + w1.1.length) : ∀ (l : List α) (w1 w2 : Wst), w1.1.length ≤ w2.1.length → (l.foldl f w1).1.length ≤ (l.foldl g w2).1.length
  | [], _, _, hw => hw
  | x :: l, w1, w2, hw => by
    rw [List.foldl_cons, List.foldl_cons]
    exact fold_short h l _ _ (by have := h w1 w2 x; omega)
theorem msg_short (id fl : Int) (qs : List Qu) (rs : List Re) : (msgW true id fl qs rs).1.length ≤ (msgW false id fl qs rs).1.length := by
  unfold msgW
  exact fold_short rW_short rs _ _ (fold_short qW_short qs _ _ (Nat.le_refl _))
/-- What is encoded without pointers is encoded with them, not longer. -/
theorem enc_short {id fl : Int} {qs : List Qu} {rs : List Re} (h : (encS false id fl qs rs).1 = 0) : (encS true id fl qs rs).1 = 0 ∧ (encS true id fl qs rs).2.length ≤ (encS false id fl qs rs).2.length := by
  have := msg_short id fl qs rs
  unfold encS at h ⊢
  by_cases hc : checkS id fl qs rs ≠ 0
  · rw [if_pos hc] at h; exact absurd h hc
  rw [if_neg hc] at h
  rw [if_neg hc, if_neg hc]
  by_cases hl : (msgW false id fl qs rs).1.length > 65535
  · rw [if_pos hl] at h; exact absurd h (by decide)
  rw [if_neg hl, if_neg (by omega)]
  exact ⟨rfl, this⟩
theorem enc_err {id fl : Int} {qs : List Qu} {rs : List Re} (h : (encS false id fl qs rs).1 ≠ 0) : (encS false id fl qs rs).2 = [] ∧ ((encS true id fl qs rs).1 = (encS false id fl qs rs).1 ∨ (encS false id fl qs rs).1 = 3) := by
  unfold encS at h ⊢
  by_cases hc : checkS id fl qs rs ≠ 0
  · rw [if_pos hc, if_pos hc]; exact ⟨rfl, .inl rfl⟩
  rw [if_neg hc] at h
  rw [if_neg hc, if_neg hc]
  by_cases hl : (msgW false id fl qs rs).1.length > 65535
  · rw [if_pos hl]; exact ⟨rfl, .inr rfl⟩
  · rw [if_neg hl] at h; exact absurd rfl h
/-! ### What is read -/
theorem labelE_all {s : Nm} : ∀ {n a : Nat}, labelE s a n = none → ∀ b ∈ (s.drop a).take n, letterB b = true
  | 0, _, _, _, hb => by simp at hb
  | n + 1, a, h, b, hb => by
    rw [labelE_succ] at h
    split at h
    · rename_i hlt
      split at h
      · rename_i hl
        rw [List.drop_eq_getElem_cons hlt, List.take_succ_cons] at hb
        rcases List.mem_cons.1 hb with rfl | hb
        · exact hl
        · exact labelE_all h b hb
      · cases h
    · cases h
theorem join_snoc {x : Nm} : ∀ {ls : List Nm}, LabL ls → joinD (ls ++ [x]) = grow (joinD ls) x
  | [], _ => by show x = _; unfold grow; rw [if_pos (show joinD [] = [] from rfl)]; rfl
  | [y], h => by show y ++ 46 :: x = _; unfold grow; rw [if_neg (join_ne h)]; show _ = y ++ [46] ++ x; simp
  | y :: z :: l, h => by
    have ih := join_snoc (x := x) h.tail
    show y ++ 46 :: joinD (z :: l ++ [x]) = _
    rw [ih]
    unfold grow
    rw [if_neg (join_ne h.tail), if_neg (join_ne h)]
    show _ = y ++ 46 :: joinD (z :: l) ++ [46] ++ x
    simp
/-- A name that is read is a name, in small letters. -/
theorem nm_name {s : Nm} {a : Nat} {n : Nm} {e : Nat} (h : nm s a = .ok n e) : isNameB n = true ∧ lowL n = n ∧ a ≤ e := by
  have hl := nm_len h
  obtain ⟨a', count, en, h1, ⟨⟨ls, g1, g2, g3, g4⟩, g5, g6⟩, h3⟩ := nameS_inv s (fun b count out en => (∃ ls, out = joinD ls ∧ LabL ls ∧ ls.length = count ∧ count ≤ 24) ∧ (en = none → a ≤ b) ∧ ∀ x, en = some x → a ≤ x)
    (fun b count out en h ⟨⟨ls, g1, g2, g3, g4⟩, g5, g6⟩ h0 h63 hc hlen hle => by
      have hbl := labelE_len hle (by omega)
      have hx : labelB ((s.drop (b + 1)).take s[b].toNat) = true := lab_mk (by
        intro e
        have := congrArg List.length e
        rw [List.length_take, List.length_drop] at this
        simp at this; omega) (by rw [List.length_take]; omega) (labelE_all hle)
      refine ⟨⟨ls ++ [lowL ((s.drop (b + 1)).take s[b].toNat)], by rw [join_snoc g2, g1], fun y hy => ?_, by simp [g3], hc⟩, fun hn => by have := g5 hn; omega, g6⟩
      rcases List.mem_append.1 hy with h | h
      · exact g2 y h
      · rw [List.mem_singleton] at h; subst h; exact ⟨lab_low hx, lowL_idem _⟩)
    (fun b count out en t h ⟨g, g5, g6⟩ => ⟨g, fun h => (by cases h), fun x hx => by
      cases hx
      cases en with
      | none => have := g5 rfl; show a ≤ b + 2; omega
      | some y => exact g6 y rfl⟩) a a 0 0 [] none ⟨⟨[], rfl, fun x hx => (List.not_mem_nil hx).elim, rfl, by omega⟩, fun _ => Nat.le_refl _, fun x hx => by cases hx⟩ h
  subst g1
  refine ⟨labs_name g2 (by omega) hl, join_low g2, ?_⟩
  subst h3
  cases en with
  | none => have := g5 rfl; show a ≤ a' + 1; omega
  | some y => exact g6 y rfl
theorem wordB_of {k : Nat} (h : k < 65536) : wordB (k : Int) = true := by unfold wordB; rw [decide_eq_true_eq]; omega
theorem question_read {s : Nm} {a : Nat} {q : Qu} {p : Nat} (h : questionS s a = .ok q p) : qE q = 0 ∧ smQ q = q ∧ a ≤ p := by
  unfold questionS at h
  cases hn : nm s a with
  | err e => rw [hn] at h; cases h
  | ok n en =>
    rw [hn] at h
    simp only at h
    split at h
    · cases h
    · split at h
      · cases h
      · cases h
        obtain ⟨g1, g2, g3⟩ := nm_name hn
        refine ⟨?_, ?_, by omega⟩
        · unfold qE; simp only; rw [g1, if_neg (by simp), wordB_of (num2_lt s en), if_neg (by simp)]
        · unfold smQ; simp only; rw [g2]
def rawN (r : Re) : Nat := if skipI r.Type_ < 0 then r.Data.length else 0
theorem record_read {s : Nm} {a : Nat} {r : Re} {p : Nat} (h : recordS s a = .ok r p) : rE r = 0 ∧ smR r = r ∧ a + rawN r ≤ p ∧ (skipI r.Type_ < 0 ∨ r.Data.length ≤ 255) := by
  unfold recordS at h
  cases hq : questionS s a with
  | err e => rw [hq] at h; cases h
  | ok q p =>
    rw [hq] at h
    obtain ⟨h1, h2, h3⟩ := question_read hq
    have hql := questionS_le hq
    have hqn : lowL q.Name = q.Name := congrArg S_api_DnsQuestion.Name h2
    obtain ⟨g1, k, g2, g3⟩ := qE_full h1
    have hw : wordB q.Type_ = true := by rw [g2]; exact wordB_of g3
    have n4 := num4_lt s p
    have n2 := num2_lt s (p + 4)
    have hsk2 : skipI q.Type_ ≤ 2 := by unfold skipI; split <;> (try split) <;> omega
    simp only at h
    split at h
    · cases h
    split at h
    · cases h
    split at h
    · rename_i hneg
      cases h
      refine ⟨?_, ?_, ?_, .inl hneg⟩
      · unfold rE
        simp only
        rw [g1, if_neg (by simp), hw, if_neg (by simp; omega)]
        unfold namedB
        rw [if_pos hneg, if_neg (by simp), if_neg (by rw [List.length_take, List.length_drop]; omega)]
      · unfold smR dataL; simp only; rw [hqn, if_pos hneg]
      · unfold rawN; simp only; rw [if_pos hneg, List.length_take, List.length_drop]; omega
    split at h
    · cases h
    rename_i hneg hle
    split at h
    · cases h
    rename_i m en hm
    split at h
    · cases h
    rename_i hen
    cases h
    obtain ⟨k1, k2, k3⟩ := nm_name hm
    have k4 := nm_len hm
    have htl : ((s.drop (p + 6)).take (skipI q.Type_).toNat).length = (skipI q.Type_).toNat := by rw [List.length_take, List.length_drop]; omega
    have hdr : ((s.drop (p + 6)).take (skipI q.Type_).toNat ++ m).drop (skipI q.Type_).toNat = m := by
      conv => lhs; arg 1; rw [← htl]
      rw [List.drop_left]
    have htk : ((s.drop (p + 6)).take (skipI q.Type_).toNat ++ m).take (skipI q.Type_).toNat = (s.drop (p + 6)).take (skipI q.Type_).toNat := by
      conv => lhs; arg 1; rw [← htl]
      rw [List.take_left]
    refine ⟨?_, ?_, ?_, .inr ?_⟩
    · unfold rE
      simp only
      rw [g1, if_neg (by simp), hw, if_neg (by simp; omega)]
      unfold namedB
      rw [if_neg hneg, hdr, k1, decide_eq_true (by rw [List.length_append, htl]; omega)]
      rw [if_neg (by simp), if_neg (by rw [List.length_append, htl]; omega)]
    · unfold smR dataL; simp only; rw [hqn, if_neg hneg, hdr, htk, k2]
    · unfold rawN; simp only; rw [if_neg hneg]; omega
    · simp only; rw [List.length_append, htl]; omega
end Go.Proofs.YtmjbcnbjedipdaaDoor
/-!
  What Decode returns can be encoded; the messages of a connection do not depend on its pieces.
-/
namespace Go.Proofs.YtmjbcnbjedipdaaDoor
set_option linter.unusedSimpArgs false
set_option linter.unusedVariables false
set_option maxRecDepth 20000
open Go
open Go.IntKind (wrap)
theorem many_read {α : Type} {f : Nat → Rs α} {R : α → Prop} {wt : α → Nat} (hf : ∀ a x p, f a = .ok x p → R x ∧ a + wt x ≤ p) : ∀ (k a : Nat) {l : List α} {q : Nat}, manyS f k a = .ok l q → l.length = k ∧ (∀ x ∈ l, R x) ∧ a + (l.map wt).sum ≤ q
  | 0, a, l, q, h => by cases h; exact ⟨rfl, fun x hx => (List.not_mem_nil hx).elim, by simp⟩
  | k + 1, a, l, q, h => by
    unfold manyS at h
    cases hx : f a with
    | err e => rw [hx] at h; cases h
    | ok x p =>
      rw [hx] at h
      simp only at h
      cases hm : manyS f k p with
      | err e => rw [hm] at h; cases h
      | ok l' q' =>
        rw [hm] at h
        cases h
        obtain ⟨h1, h2, h3⟩ := many_read hf k p hm
        obtain ⟨g1, g2⟩ := hf a x p hx
        refine ⟨by simp [h1], fun y hy => ?_, ?_⟩
        · rcases List.mem_cons.1 hy with rfl | hy
          · exact g1
          · exact h2 y hy
        · simp only [List.map_cons, List.sum_cons]; omega
theorem firstE_zero {α : Type} {f : α → Int} : ∀ {l : List α}, (∀ x ∈ l, f x = 0) → firstE f l = 0
  | [], _ => rfl
  | x :: l, h => by
    unfold firstE
    rw [if_neg (by rw [h x (List.mem_cons_self ..)]; simp)]
    exact firstE_zero fun y hy => h y (List.mem_cons_of_mem _ hy)
theorem map_same {α : Type} {f : α → α} {l : List α} (h : ∀ x ∈ l, f x = x) : l.map f = l := by
  conv => rhs; rw [← List.map_id l]
  exact List.map_congr_left h
theorem qW_grow (w : Wst) (q : Qu) (hq : q.Name.length ≤ 253) : (qW true w q).1.length ≤ w.1.length + 512 := by
  have := (nameW_len true _ (lowL q.Name) w.1 w.2 (Nat.le_refl _)).2
  rw [lowL_len] at this
  unfold qW; simp only [List.length_append, beB_len]; omega
theorem rW_grow (w : Wst) (x : Re) (hn : x.Name.length ≤ 253) (hd : skipI x.Type_ < 0 ∨ x.Data.length ≤ 255) : (rW true w x).1.length ≤ w.1.length + 1100 + rawN x := by
  have h1 := (nameW_len true _ (lowL x.Name) w.1 w.2 (Nat.le_refl _)).2
  rw [lowL_len] at h1
  unfold rW rawN
  rw [(dataW_body ..).1]
  unfold bodyW
  by_cases hneg : skipI x.Type_ < 0
  · rw [if_pos hneg, if_pos hneg]; simp only [List.length_append, beB_len]; omega
  · rw [if_neg hneg, if_neg hneg]
    have := (nameW_len true _ (lowL (x.Data.drop (skipI x.Type_).toNat)) ((nameW true (lowL x.Name) w.1 w.2).1 ++ beB 2 x.Type_.toNat ++ beB 2 1 ++ beB 4 x.Ttl.toNat ++ beB 2 0 ++ x.Data.take (skipI x.Type_).toNat) (nameW true (lowL x.Name) w.1 w.2).2 (Nat.le_refl _)).2
    simp only [List.length_append, beB_len, lowL_len, List.length_drop, List.length_take] at this
    have hd := hd.resolve_left hneg
    have hsk2 : skipI x.Type_ ≤ 2 := by unfold skipI; split <;> (try split) <;> omega
    omega
theorem qs_grow : ∀ (l : List Qu) (w : Wst), (∀ q ∈ l, q.Name.length ≤ 253) → (l.foldl (qW true) w).1.length ≤ w.1.length + 512 * l.length
  | [], w, _ => by simp
  | q :: l, w, h => by
    have h1 := qW_grow w q (h q (List.mem_cons_self ..))
    have h2 := qs_grow l (qW true w q) fun x hx => h x (List.mem_cons_of_mem _ hx)
    rw [List.foldl_cons, List.length_cons]; omega
theorem rs_grow : ∀ (l : List Re) (w : Wst), (∀ x ∈ l, x.Name.length ≤ 253 ∧ (skipI x.Type_ < 0 ∨ x.Data.length ≤ 255)) → (l.foldl (rW true) w).1.length ≤ w.1.length + 1100 * l.length + (l.map rawN).sum
  | [], w, _ => by simp
  | x :: l, w, h => by
    have h0 := h x (List.mem_cons_self ..)
    have h1 := rW_grow w x h0.1 h0.2
    have h2 := rs_grow l (rW true w x) fun y hy => h y (List.mem_cons_of_mem _ hy)
    rw [List.foldl_cons, List.length_cons, List.map_cons, List.sum_cons]; omega
theorem decodeS_err {s : Nm} {e : Int} (h : decodeS s = .err e) : e ≠ 0 := by
  unfold decodeS at h
  split at h
  · cases h; decide
  split at h
  · cases h; decide
  split at h
  · rename_i e' hm; cases h; exact manyS_err (fun a k hk => questionS_err hk) _ _ hm
  split at h
  · rename_i e' hm; cases h; exact manyS_err (fun a k hk => recordS_err hk) _ _ hm
  split at h
  · cases h; decide
  · cases h
theorem dec_bad {s : Nm} (h : (decS s).1 ≠ 0) : (decS s).2 = emptyM := by
  unfold decS at h ⊢
  split
  · rfl
  · rename_i m q hd; rw [hd] at h; exact absurd rfl h
theorem dec_ok {s : Nm} (h : (decS s).1 = 0) : ∃ q, decodeS s = .ok (decS s).2 q := by
  unfold decS at h ⊢
  split
  · rename_i e hd; rw [hd] at h; exact absurd h (decodeS_err hd)
  · rename_i m q hd; exact ⟨q, hd⟩
structure Fine (m : Msg) : Prop where
  q : ∀ x ∈ m.qs, qE x = 0 ∧ smQ x = x
  r : ∀ x ∈ m.rs, rE x = 0 ∧ smR x = x
  ql : m.qs.length ≤ 8
  rl : m.rs.length ≤ 32
theorem dec_fine {s : Nm} {m : Msg} {q : Nat} (h : decodeS s = .ok m q) : Fine m ∧ wordB m.Id = true ∧ wordB m.Flags = true ∧ (m.rs.map rawN).sum ≤ s.length ∧ ∀ x ∈ m.rs, skipI x.Type_ < 0 ∨ x.Data.length ≤ 255 := by
  unfold decodeS at h
  split at h
  · cases h
  split at h
  · cases h
  rename_i hn
  split at h
  · cases h
  rename_i qs p hq
  split at h
  · cases h
  rename_i rs q' hr
  split at h
  · cases h
  cases h
  obtain ⟨a1, a2, a3⟩ := many_read (R := fun x => qE x = 0 ∧ smQ x = x) (wt := fun _ => 0) (fun a x p hx => by have := question_read hx; exact ⟨⟨this.1, this.2.1⟩, by have := this.2.2; omega⟩) _ _ hq
  obtain ⟨b1, b2, b3⟩ := many_read (R := fun x => (rE x = 0 ∧ smR x = x) ∧ (skipI x.Type_ < 0 ∨ x.Data.length ≤ 255)) (wt := rawN) (fun a x p hx => by have := record_read hx; exact ⟨⟨⟨this.1, this.2.1⟩, this.2.2.2⟩, this.2.2.1⟩) _ _ hr
  exact ⟨⟨a2, fun x hx => (b2 x hx).1, by simp only; omega, by simp only; omega⟩, wordB_of (num2_lt s 0), wordB_of (num2_lt s 2), by simp only; omega, fun x hx => (b2 x hx).2⟩
theorem Fine.small {m : Msg} (h : Fine m) : smM m.Id m.Flags m.qs m.rs = m := by
  unfold smM
  rw [map_same fun x hx => (h.q x hx).2, map_same fun x hx => (h.r x hx).2]
theorem qE_len {q : Qu} (h : qE q = 0) : q.Name.length ≤ 253 := (qE_ok h).1
/-- What Decode returns can be encoded, and decoded again. -/
theorem accepts {s : Nm} (hs : s.length ≤ 3000) (h : (decS s).1 = 0) : Fine (decS s).2 ∧ (encS true (decS s).2.Id (decS s).2.Flags (decS s).2.qs (decS s).2.rs).1 = 0 := by
  obtain ⟨q, hd⟩ := dec_ok h
  generalize (decS s).2 = m at *
  obtain ⟨F, hi, hf, hr, hx⟩ := dec_fine hd
  refine ⟨F, ?_⟩
  have hck : checkS m.Id m.Flags m.qs m.rs = 0 := by
    have q0 := firstE_zero (f := qE) (l := m.qs) fun x hx => (F.q x hx).1
    have r0 := firstE_zero (f := rE) (l := m.rs) fun x hx => (F.r x hx).1
    unfold checkS
    rw [if_neg (by have := F.ql; have := F.rl; omega), if_neg (by rw [hi, hf]; simp), if_neg (by rw [q0]; simp), r0]
  unfold encS
  rw [if_neg (by rw [hck]; simp)]
  have hlen : (msgW true m.Id m.Flags m.qs m.rs).1.length ≤ 65535 := by
    unfold msgW
    have h1 := qs_grow m.qs (headW m.Id m.Flags m.qs.length m.rs.length, []) fun x hx => qE_len (F.q x hx).1
    have h2 := rs_grow m.rs (m.qs.foldl (qW true) (headW m.Id m.Flags m.qs.length m.rs.length, [])) fun x hx' => ⟨(rE_ok (F.r x hx').1).1, hx x hx'⟩
    have h3 : (headW m.Id m.Flags m.qs.length m.rs.length).length = 12 := by unfold headW; simp only [List.length_append, beB_len]
    have := F.ql
    have := F.rl
    simp only at h1
    omega
  rw [if_neg (by omega)]
/-! ### Pieces -/
theorem num_app {s : Nm} (t : Nm) {a k : Nat} (h : a + k ≤ s.length) : num (s ++ t) a k = num s a k := by
  unfold num
  congr 1
  rw [List.drop_append, List.take_append]
  have : k - (s.drop a).length = 0 := by rw [List.length_drop]; omega
  rw [this, List.take_zero, List.append_nil]
theorem feedS_app : ∀ (n : Nat) (a b : Nm), a.length ≤ n → ((feedS a).2.2 = false → feedS (a ++ b) = ((feedS a).1 ++ (feedS ((feedS a).2.1 ++ b)).1, (feedS ((feedS a).2.1 ++ b)).2)) ∧ ((feedS a).2.2 = true → (feedS (a ++ b)).2.2 = true)
  | n, a, b, hn => by
    by_cases h2 : a.length < 2
    · rw [feedS_short h2]; exact ⟨fun _ => rfl, fun h => by cases h⟩
    · have hnum := num_app (s := a) b (a := 0) (k := 2) (by omega)
      have hab : ¬ (a ++ b).length < 2 := by rw [List.length_append]; omega
      by_cases h3 : num a 0 2 < 12
      · rw [feedS_bad h2 h3, feedS_bad hab (by rw [hnum]; exact h3)]; exact ⟨fun h => (by cases h), fun _ => rfl⟩
      · by_cases h4 : a.length < 2 + num a 0 2
        · rw [feedS_wait h2 h3 h4]; exact ⟨fun _ => rfl, fun h => by cases h⟩
        · rw [feedS_go h2 h3 h4, feedS_go hab (by rw [hnum]; exact h3) (by rw [hnum, List.length_append]; omega), hnum]
          have hd : (a ++ b).drop (2 + num a 0 2) = a.drop (2 + num a 0 2) ++ b := by
            rw [List.drop_append]; rw [show 2 + num a 0 2 - a.length = 0 by omega, List.drop_zero]
          have ht : ((a ++ b).drop 2).take (num a 0 2) = (a.drop 2).take (num a 0 2) := by
            rw [List.drop_append, List.take_append, List.length_drop, show num a 0 2 - (a.length - 2) = 0 by omega, List.take_zero, List.append_nil]
          rw [hd, ht]
          cases n with
          | zero => omega
          | succ n =>
            obtain ⟨g1, g2⟩ := feedS_app n (a.drop (2 + num a 0 2)) b (by rw [List.length_drop]; omega)
            refine ⟨fun h => ?_, fun h => g2 h⟩
            rw [g1 h]; rfl
theorem feed_app {a b : Nm} (h : (feedS a).2.2 = false) : feedS (a ++ b) = ((feedS a).1 ++ (feedS ((feedS a).2.1 ++ b)).1, (feedS ((feedS a).2.1 ++ b)).2) := (feedS_app _ a b (Nat.le_refl _)).1 h
theorem feed_alive {a b : Nm} (h : (feedS (a ++ b)).2.2 = false) : (feedS a).2.2 = false := by
  cases hd : (feedS a).2.2 with
  | false => rfl
  | true => rw [(feedS_app _ a b (Nat.le_refl _)).2 hd] at h; cases h
def cat2 (l : List Nm) : Nm := l.flatMap fun x => beB 2 x.length ++ x
theorem feed_all : ∀ (l : List Nm), (∀ x ∈ l, 12 ≤ x.length ∧ x.length ≤ 300) → feedS (cat2 l) = (l, [], false)
  | [], _ => feedS_short (by decide)
  | x :: l, h => by
    have hx := h x (List.mem_cons_self ..)
    have ih := feed_all l fun y hy => h y (List.mem_cons_of_mem _ hy)
    have e : cat2 (x :: l) = beB 2 x.length ++ x ++ cat2 l := by unfold cat2; rw [List.flatMap_cons]
    have hnum : num (beB 2 x.length ++ x ++ cat2 l) 0 2 = x.length := by
      have := num_mid [] (x ++ cat2 l) 2 x.length (a := 0) rfl (by omega)
      rw [List.nil_append, ← List.append_assoc] at this
      exact this
    have hl : (beB 2 x.length ++ x ++ cat2 l).length = 2 + x.length + (cat2 l).length := by simp only [List.length_append, beB_len]
    have hp : (beB 2 x.length ++ x).length = 2 + x.length := by rw [List.length_append, beB_len]
    have hd : (beB 2 x.length ++ x ++ cat2 l).drop (2 + x.length) = cat2 l := by rw [← hp, List.drop_left]
    have ht : ((beB 2 x.length ++ x ++ cat2 l).drop 2).take x.length = x := mid (beB 2 x.length) x (cat2 l) (by rw [beB_len]) rfl
    rw [e, feedS_go (by omega) (by omega) (by omega), hnum, hd, ih, ht]
end Go.Proofs.YtmjbcnbjedipdaaDoor
/-!
  The laws' small example.
-/
namespace Go.Proofs.YtmjbcnbjedipdaaDoor
set_option linter.unusedSimpArgs false
set_option linter.unusedVariables false
set_option maxRecDepth 20000
open Go
open Go.IntKind (wrap)
def qa : Qu := ⟨[97], 1⟩
def qb : Qu := ⟨[97, 46, 98], 1⟩
def rb : Re := ⟨[67, 46, 98], 1, 0, []⟩
theorem enc1 : encS false 1 256 [qa] [] = (0, [0, 1, 1, 0, 0, 1, 0, 0, 0, 0, 0, 0, 1, 97, 0, 0, 1, 0, 1]) := by
  have hc : checkS 1 256 [qa] [] = 0 := by decide +kernel
  have hw : nameW false [97] (headW 1 256 1 0) [] = (headW 1 256 1 0 ++ beB 1 1 ++ [97] ++ beB 1 0, []) := by
    rw [nameW_miss (by decide) rfl, if_neg (by simp)]
    exact nameW_nil ..
  have hm : msgW false 1 256 [qa] [] = ([0, 1, 1, 0, 0, 1, 0, 0, 0, 0, 0, 0, 1, 97, 0, 0, 1, 0, 1], []) := by
    show qW false (headW 1 256 1 0, []) qa = _
    unfold qW
    show ((nameW false [97] (headW 1 256 1 0) []).1 ++ beB 2 1 ++ beB 2 1, (nameW false [97] (headW 1 256 1 0) []).2) = _
    rw [hw]; decide +kernel
  unfold encS
  rw [if_neg (by rw [hc]; simp), hm, if_neg (by decide)]
theorem enc2 : encS true 0 0 [qb] [rb] = (0, [0, 0, 0, 0, 0, 1, 0, 1, 0, 0, 0, 0, 1, 97, 1, 98, 0, 0, 1, 0, 1, 1, 99, 192, 14, 0, 1, 0, 1, 0, 0, 0, 0, 0, 0]) := by
  have hc : checkS 0 0 [qb] [rb] = 0 := by decide +kernel
  have a1 : nameW true [97, 46, 98] [0, 0, 0, 0, 0, 1, 0, 1, 0, 0, 0, 0] [] = nameW true [98] [0, 0, 0, 0, 0, 1, 0, 1, 0, 0, 0, 0, 1, 97] [([97, 46, 98], 12)] := by
    rw [nameW_miss (by decide) (by decide +kernel)]; congr 1
  have a2 : nameW true [98] [0, 0, 0, 0, 0, 1, 0, 1, 0, 0, 0, 0, 1, 97] [([97, 46, 98], 12)] = nameW true [] [0, 0, 0, 0, 0, 1, 0, 1, 0, 0, 0, 0, 1, 97, 1, 98] [([97, 46, 98], 12), ([98], 14)] := by
    rw [nameW_miss (by decide) (by decide +kernel)]; congr 1
  have a3 : nameW true [99, 46, 98] [0, 0, 0, 0, 0, 1, 0, 1, 0, 0, 0, 0, 1, 97, 1, 98, 0, 0, 1, 0, 1] [([97, 46, 98], 12), ([98], 14)] = nameW true [98] [0, 0, 0, 0, 0, 1, 0, 1, 0, 0, 0, 0, 1, 97, 1, 98, 0, 0, 1, 0, 1, 1, 99] [([97, 46, 98], 12), ([98], 14), ([99, 46, 98], 21)] := by
    rw [nameW_miss (by decide) (by decide +kernel)]; congr 1
  have a4 : nameW true [98] [0, 0, 0, 0, 0, 1, 0, 1, 0, 0, 0, 0, 1, 97, 1, 98, 0, 0, 1, 0, 1, 1, 99] [([97, 46, 98], 12), ([98], 14), ([99, 46, 98], 21)] = ([0, 0, 0, 0, 0, 1, 0, 1, 0, 0, 0, 0, 1, 97, 1, 98, 0, 0, 1, 0, 1, 1, 99, 192, 14], [([97, 46, 98], 12), ([98], 14), ([99, 46, 98], 21)]) := by
    rw [nameW_hit (a := 14) (by decide) (by decide +kernel)]; decide +kernel
  have hq : qW true (headW 0 0 1 1, []) qb = ([0, 0, 0, 0, 0, 1, 0, 1, 0, 0, 0, 0, 1, 97, 1, 98, 0, 0, 1, 0, 1], [([97, 46, 98], 12), ([98], 14)]) := by
    unfold qW
    have h0 : headW 0 0 1 1 = [0, 0, 0, 0, 0, 1, 0, 1, 0, 0, 0, 0] := by decide +kernel
    rw [h0]
    show ((nameW true [97, 46, 98] [0, 0, 0, 0, 0, 1, 0, 1, 0, 0, 0, 0] []).1 ++ beB 2 1 ++ beB 2 1, (nameW true [97, 46, 98] [0, 0, 0, 0, 0, 1, 0, 1, 0, 0, 0, 0] []).2) = _
    rw [a1, a2, nameW_nil]; decide +kernel
  have hm : (msgW true 0 0 [qb] [rb]).1 = [0, 0, 0, 0, 0, 1, 0, 1, 0, 0, 0, 0, 1, 97, 1, 98, 0, 0, 1, 0, 1, 1, 99, 192, 14, 0, 1, 0, 1, 0, 0, 0, 0, 0, 0] := by
    show (rW true (qW true (headW 0 0 1 1, []) qb) rb).1 = _
    rw [hq]
    unfold rW
    show (dataW true 1 [] ((nameW true [99, 46, 98] [0, 0, 0, 0, 0, 1, 0, 1, 0, 0, 0, 0, 1, 97, 1, 98, 0, 0, 1, 0, 1] [([97, 46, 98], 12), ([98], 14)]).1 ++ beB 2 1 ++ beB 2 1 ++ beB 4 0) (nameW true [99, 46, 98] [0, 0, 0, 0, 0, 1, 0, 1, 0, 0, 0, 0, 1, 97, 1, 98, 0, 0, 1, 0, 1] [([97, 46, 98], 12), ([98], 14)]).2).1 = _
    rw [a3, a4]
    decide +kernel
  unfold encS
  rw [if_neg (by rw [hc]; simp), hm, if_neg (by decide)]
/-- A message in a block that a call owns. -/
structure DM (h : Heap) (t : Addr) (m : Msg) : Prop where
  ex : ∃ p1 c1 p2 c2, Own h t [.int .i64 m.Id, .int .i64 m.Flags, .slice p1 m.qs.length c1, .slice p2 m.rs.length c2] T_api_Dns ∧ Row 2 S_api_DnsQuestion.vals h p1 c1 m.qs ∧ Row 4 S_api_DnsRecord.vals h p2 c2 m.rs
theorem awake_c [Gh] {h : Heap} {Q : Value → Heap → Prop} (hk : ∀ h', Fr (fun _ => False) h h' → Q (.bool true) h') : CallT Tryd.prog fn_law29_awake #[] h Q := by
  apply law29_awake_s
  unfold law29_awake_v
  have ex : ∀ (t : Addr) (h : Heap) (xs : List Qu), Own h t (xs.flatMap S_api_DnsQuestion.vals) T_api_DnsQuestion → xs.length ≤ 5 → (∀ x ∈ xs, S_api_DnsQuestion.ok h x) → SlOk 2 S_api_DnsQuestion.vals S_api_DnsQuestion.ok h ⟨some t, xs.length, xs⟩ := fun t h xs o hl hok => SlOk.of_own qu_len o (by omega) hok
  refine al_mk (vs := qa.vals) fun t10 h1 f1 e1 o1 => ?_
  refine al_mk (vs := [.int .i64 0, .int .i64 0, .slice none 0 0, .slice none 0 0]) fun t1 h2 f2 e2 o2 => ?_
  refine stN_own o2 (ws := [.int .i64 1, .int .i64 256, .slice (some t10) 1 1, .slice none 0 0]) (by rfl) (by rfl) fun h3 f3 s3 o3 => ?_
  have z1 := f1.size
  have z2 := f2.size
  have l1 := o1.lt
  have o13 := (o1.fr0 f2).fr f3 (by omega)
  have c3 := o3.cells
  refine (ldI_mk (c3.at0 rfl) (ldI_mk (c3.at rfl) (ldL_mk (c3.at rfl) (ldL_mk (c3.at rfl) ?_))))
  refine Encode_c (u := ⟨some t10, 1, [qa]⟩) (w := nilS) (SlOk.of_own (xs := [qa]) (T := T_api_DnsQuestion) qu_len o13 (by simp) (fun x hx => by rw [List.mem_singleton] at hx; subst hx; exact ⟨by unfold sOk qa; simp, by unfold kOk qa; decide⟩)) nilS_ok (fun q hq => by rw [List.mem_singleton] at hq; subst hq; unfold qa; simp) (fun r hr => (List.not_mem_nil hr).elim) fun h4 f4 => ?_
  have F4 : Fr (fun _ => False) h h4 := ((f1.trans f2).tr f3 fun b hb hi => by omega).trans f4
  have en1 : encV false 1 256 [qa] [] = .tuple #[.string (bs [0, 1, 1, 0, 0, 1, 0, 0, 0, 0, 0, 0, 1, 97, 0, 0, 1, 0, 1]), .int .i64 0] := by unfold encV; rw [enc1]
  refine ⟨_, _, en1, ?_⟩
  refine al_mk (vs := qb.vals) fun t18 h5 f5 e5 o5 => ?_
  refine al_mk (vs := rb.vals) fun t20 h6 f6 e6 o6 => ?_
  refine al_mk (vs := [.int .i64 0, .int .i64 0, .slice none 0 0, .slice none 0 0]) fun t4 h7 f7 e7 o7 => ?_
  refine stN_own o7 (ws := [.int .i64 0, .int .i64 0, .slice (some t18) 1 1, .slice (some t20) 1 1]) (by rfl) (by rfl) fun h8 f8 s8 o8 => ?_
  have z4 := F4.size
  have z5 := f5.size
  have z6 := f6.size
  have z7 := f7.size
  have l5 := o5.lt
  have l6 := o6.lt
  have o58 := ((o5.fr0 f6).fr0 f7).fr f8 (by omega)
  have o68 := (o6.fr0 f7).fr f8 (by omega)
  have c8 := o8.cells
  refine (ldI_mk (c8.at0 rfl) (ldI_mk (c8.at rfl) (ldL_mk (c8.at rfl) (ldL_mk (c8.at rfl) ?_))))
  refine EncodeShort_c (u := ⟨some t18, 1, [qb]⟩) (w := ⟨some t20, 1, [rb]⟩) (SlOk.of_own (xs := [qb]) (T := T_api_DnsQuestion) qu_len o58 (by simp) (fun x hx => by rw [List.mem_singleton] at hx; subst hx; exact ⟨by unfold sOk qb; simp, by unfold kOk qb; decide⟩)) (SlOk.of_own (xs := [rb]) (T := T_api_DnsRecord) re_len o68 (by simp) (fun x hx => by rw [List.mem_singleton] at hx; subst hx; exact ⟨by unfold sOk rb; simp, by unfold kOk rb; decide, by unfold kOk rb; decide, by unfold sOk rb; simp⟩)) (fun q hq => by rw [List.mem_singleton] at hq; subst hq; unfold qb; simp) (fun r hr => by rw [List.mem_singleton] at hr; subst hr; unfold rb; simp) fun h9 f9 => ?_
  have F9 : Fr (fun _ => False) h h9 := ((((F4.trans f5).trans f6).trans f7).tr f8 fun b hb hi => by omega).trans f9
  have en2 : encV true 0 0 [qb] [rb] = .tuple #[.string (bs [0, 0, 0, 0, 0, 1, 0, 1, 0, 0, 0, 0, 1, 97, 1, 98, 0, 0, 1, 0, 1, 1, 99, 192, 14, 0, 1, 0, 1, 0, 0, 0, 0, 0, 0]), .int .i64 0] := by unfold encV; rw [enc2]
  refine ⟨_, _, en2, ?_⟩
  have hd := dec_enc true (id := 0) (fl := 0) (qs := [qb]) (rs := [rb]) (by rw [enc2])
  rw [enc2] at hd
  simp only at hd
  have hsm : smM 0 0 [qb] [rb] = ⟨0, 0, [⟨[97, 46, 98], 1⟩], [⟨[99, 46, 98], 1, 0, []⟩]⟩ := by rfl
  rw [hsm] at hd
  refine decode_c _ (by decide) fun p1 k1 p2 k2 h10 f10 R1 R2 => ?_
  rw [hd] at R1 R2 ⊢
  refine ⟨_, _, _, _, _, _, _, _, _, rfl, ?_⟩
  refine al_mk (vs := [.int .i64 0, .int .i64 0, .slice none 0 0, .slice none 0 0]) fun t7 h11 f11 e11 o11 => ?_
  refine stN_own o11 (ws := [.int .i64 0, .int .i64 0, .slice p1 1 k1, .slice p2 1 k2]) (by rfl) (by rfl) fun h12 f12 s12 o12 => ?_
  have z9 := F9.size
  have z10 := f10.size
  have F12 : Fr (fun _ => False) h h12 := ((F9.trans f10).trans f11).tr f12 fun b hb hi => by omega
  have R12 : Row 4 S_api_DnsRecord.vals h12 p2 k2 [⟨[99, 46, 98], 1, 0, []⟩] := (R2.fr0 f11).fr f12 fun b hb h => by have := R2.lt hb; omega
  rw [if_neg (by decide), if_neg (by decide), if_neg (by decide), if_neg (by decide)]
  refine ldL_mk (o12.cells.at (j := 3) rfl) ?_
  rw [if_neg (by decide)]
  refine ifS (m := [0, 1, 1, 0, 0, 1, 0, 0, 0, 0, 0, 0, 1, 97, 0, 0, 1, 0, 1]) (fun _ => ?_) fun h => absurd rfl h
  refine slS _ 21 25 rfl rfl (by decide) (by decide) ?_
  refine ifS (m := [1, 99, 192, 14]) (fun _ => ?_) fun h => absurd rfl h
  refine ldL_mk (o12.cells.at (j := 3) rfl) ?_
  refine R12.idx re_len (by omega) 0 rfl (by decide) fun ad cc => ?_
  have cc : Cells h12 (ad.add (0 * 4)) [.string (bs [99, 46, 98]), .int .i64 1, .int .i64 0, .string (bs [])] := cc
  refine ldS_mk (cc.at0 rfl) ?_
  refine ifS (m := [99, 46, 98]) (fun _ => ?_) fun h => absurd rfl h
  refine isName_c [97, 46, 98, 45, 99] (by decide) fun h13 f13 => ⟨_, rfl, ?_⟩
  rw [if_pos (by decide +kernel)]
  refine isName_c [] (by decide) fun h14 f14 => ⟨_, rfl, ?_⟩
  rw [if_pos (by decide +kernel)]
  refine isName_c [97, 46] (by decide) fun h15 f15 => ⟨_, rfl, ?_⟩
  rw [if_pos (by decide +kernel)]
  refine isName_c [97, 46, 46, 98] (by decide) fun h16 f16 => ⟨_, rfl, ?_⟩
  exact Qeq (hk h16 ((((F12.trans f13).trans f14).trans f15).trans f16)) (by rw [show isNameB [97, 46, 46, 98] = false by decide +kernel]; rfl)
end Go.Proofs.YtmjbcnbjedipdaaDoor
/-!
  The laws Names, Decodes, Encodes, Streams.
-/
namespace Go.Proofs.YtmjbcnbjedipdaaDoor
set_option linter.unusedSimpArgs false
set_option linter.unusedVariables false
set_option maxRecDepth 20000
open Go
open Go.IntKind (wrap)
theorem ifSame {α : Type} {b : Bool} {X Y : Prop} (h : X) : if (b == b) = true then X else Y := by rw [if_pos (by simp)]; exact h
theorem ifSameI {n : Int} {X Y : Prop} (h : X) : if (n == n) = true then X else Y := by rw [if_pos (by simp)]; exact h
theorem ifSameN {n : Int} {X Y : Prop} (h : Y) : if (n != n) = true then X else Y := by rw [if_neg (by simp)]; exact h
theorem ifSameS {s : ByteArray} {X Y : Prop} (h : X) : if (s.toList == s.toList) = true then X else Y := by rw [if_pos (by simp)]; exact h
theorem DnsNames_c [Gh] (s : List UInt8) {h : Heap} (_ : sOk h s) {Q : Value → Heap → Prop} (hk : ∀ h', Fr (fun _ => False) h h' → Q (.bool true) h') : CallT Tryd.prog fn_law29_DnsNames #[.string (bs s)] h Q := by
  apply law29_DnsNames_s
  unfold law29_DnsNames_v
  rw [bs_size]
  refine ifD (fun e => ?_) fun e => ?_
  · refine awake_c fun h1 f1 => ⟨_, rfl, ?_⟩
    rw [if_pos rfl]; exact hk h1 f1
  · refine isName_c s (by omega) fun h1 f1 => ⟨_, rfl, rIsName_c s fun h2 f2 => ⟨_, rfl, ifSame (α := Unit) ?_⟩⟩
    exact awake_c fun h3 f3 => ⟨_, rfl, hk h3 ((f1.trans f2).trans f3)⟩
theorem MsgLen {s : Nm} : (decS s).2.qs.length ≤ 2 ^ 30 ∧ (decS s).2.rs.length ≤ 2 ^ 30 := by
  by_cases h : (decS s).1 = 0
  · obtain ⟨q, hd⟩ := dec_ok h
    have := (dec_fine hd).1
    exact ⟨by have := this.ql; omega, by have := this.rl; omega⟩
  · rw [dec_bad h]; exact ⟨by decide, by decide⟩
theorem DnsDecodes_c [Gh] (s : List UInt8) {h : Heap} (_ : sOk h s) {Q : Value → Heap → Prop} (hk : ∀ h', Fr (fun _ => False) h h' → Q (.bool true) h') : CallT Tryd.prog fn_law29_DnsDecodes #[.string (bs s)] h Q := by
  apply law29_DnsDecodes_s
  unfold law29_DnsDecodes_v
  rw [bs_size]
  refine ifD (fun e => ?_) fun e => ?_
  · exact awake_c fun h1 f1 => ⟨_, rfl, hk h1 f1⟩
  have hml := MsgLen (s := s)
  refine decode_c s (by omega) fun p1 c1 p2 c2 h2 f2 R1 R2 => ?_
  refine ⟨_, _, _, _, _, _, _, _, _, rfl, ?_⟩
  refine al_mk (vs := [.int .i64 0, .int .i64 0, .slice none 0 0, .slice none 0 0]) fun t3 h3 f3 e3 o3 => ?_
  refine stN_own o3 (ws := [.int .i64 (decS s).2.Id, .int .i64 (decS s).2.Flags, .slice p1 (decS s).2.qs.length c1, .slice p2 (decS s).2.rs.length c2]) (by rfl) (by rfl) fun h4 f4 s4 o4 => ?_
  have z2 := f2.size
  have z3 := f3.size
  have F4 : Fr (fun _ => False) h2 h4 := f3.tr f4 fun b hb hi => by omega
  have R1 := R1.fr0 F4
  have R2 := R2.fr0 F4
  have z4 := F4.size
  have l4 := o4.lt
  refine rDecode_c s (by omega) fun q1 d1 q2 d2 h5 f5 R3 R4 => ?_
  refine ⟨_, _, _, _, _, _, _, _, _, rfl, ?_⟩
  refine al_mk (vs := [.int .i64 0, .int .i64 0, .slice none 0 0, .slice none 0 0]) fun t5 h6 f6 e6 o6 => ?_
  refine stN_own o6 (ws := [.int .i64 (decS s).2.Id, .int .i64 (decS s).2.Flags, .slice q1 (decS s).2.qs.length d1, .slice q2 (decS s).2.rs.length d2]) (by rfl) (by rfl) fun h7 f7 s7 o7 => ?_
  have z5 := f5.size
  have F7 : Fr (fun _ => False) h5 h7 := f6.tr f7 fun b hb hi => by omega
  have R1 := (R1.fr0 f5).fr0 F7
  have R2 := (R2.fr0 f5).fr0 F7
  have R3 := R3.fr0 F7
  have R4 := R4.fr0 F7
  have ca := ((o4.fr0 f5).fr0 F7).cells
  have cb := o7.cells
  refine (ldI_mk (ca.at0 rfl) (ldI_mk (ca.at rfl) (ldL_mk (ca.at rfl) (ldL_mk (ca.at rfl) ?_))))
  refine (ldI_mk (cb.at0 rfl) (ldI_mk (cb.at rfl) (ldL_mk (cb.at rfl) (ldL_mk (cb.at rfl) ?_))))
  refine same_c R1 R2 R3 R4 hml.1 hml.2 fun h8 f8 => ⟨_, rfl, ?_⟩
  rw [if_pos rfl]
  refine ifSameI ?_
  exact awake_c fun h9 f9 => ⟨_, rfl, hk h9 (((((f2.trans F4).trans f5).trans F7).trans f8).trans f9)⟩
theorem DnsEncodes_c [Gh] (x : S_api_Dns) {h : Heap} (ox : x.ok h) {Q : Value → Heap → Prop} (hk : ∀ h', Fr (fun _ => False) h h' → Q (.bool true) h') : CallT Tryd.prog fn_law29_DnsEncodes #[.agg x.vals.toArray] h Q := by
  obtain ⟨id, fl, u, w⟩ := x
  obtain ⟨_, _, ou, ow⟩ := ox
  apply law29_DnsEncodes_s
  unfold law29_DnsEncodes_v
  refine al_mk (vs := [.int .i64 id, .int .i64 fl, .slice u.p u.xs.length u.cap, .slice w.p w.xs.length w.cap]) fun t1 h1 f1 e1 o1 => ?_
  have c1 := o1.cells
  refine (ldI_mk (c1.at0 rfl) (ldI_mk (c1.at rfl) (ldL_mk (c1.at rfl) (ldL_mk (c1.at rfl) ?_))))
  have ou1 := SlOk.fr0 S_api_DnsQuestion.ok_fr f1 ou
  have ow1 := SlOk.fr0 S_api_DnsRecord.ok_fr f1 ow
  refine large_c ou1 ow1 (fun h2 f2 => ⟨_, rfl, ?_⟩) fun _ _ hq hr h2 f2 => ⟨_, rfl, ?_⟩
  · rw [if_pos rfl]; exact awake_c fun h3 f3 => ⟨_, rfl, hk h3 ((f1.trans f2).trans f3)⟩
  rw [if_neg (by simp)]
  have hq' : ∀ q ∈ u.xs, q.Name.length ≤ 2 ^ 20 := fun q hm => by have := hq q hm; omega
  have hr' : ∀ r ∈ w.xs, r.Name.length ≤ 2 ^ 20 ∧ r.Data.length ≤ 2 ^ 20 := fun r hm => by have := hr r hm; omega
  have ou2 := SlOk.fr0 S_api_DnsQuestion.ok_fr f2 ou1
  have ow2 := SlOk.fr0 S_api_DnsRecord.ok_fr f2 ow1
  have c2 := (o1.fr0 f2).cells
  refine (ldI_mk (c2.at0 rfl) (ldI_mk (c2.at rfl) (ldL_mk (c2.at rfl) (ldL_mk (c2.at rfl) ?_))))
  refine Encode_c ou2 ow2 hq' hr' fun h4 f4 => ⟨_, _, rfl, ?_⟩
  have ou4 := SlOk.fr0 S_api_DnsQuestion.ok_fr f4 ou2
  have ow4 := SlOk.fr0 S_api_DnsRecord.ok_fr f4 ow2
  have c4 := c2.fr0 f4
  refine (ldI_mk (c4.at0 rfl) (ldI_mk (c4.at rfl) (ldL_mk (c4.at rfl) (ldL_mk (c4.at rfl) ?_))))
  refine rEncode_c ou4 ow4 fun h5 f5 => ⟨_, _, rfl, ?_⟩
  have ou5 := SlOk.fr0 S_api_DnsQuestion.ok_fr f5 ou4
  have ow5 := SlOk.fr0 S_api_DnsRecord.ok_fr f5 ow4
  have c5 := c4.fr0 f5
  refine (ldI_mk (c5.at0 rfl) (ldI_mk (c5.at rfl) (ldL_mk (c5.at rfl) (ldL_mk (c5.at rfl) ?_))))
  refine EncodeShort_c ou5 ow5 hq' hr' fun h6 f6 => ⟨_, _, rfl, ?_⟩
  have ou6 := SlOk.fr0 S_api_DnsQuestion.ok_fr f6 ou5
  have ow6 := SlOk.fr0 S_api_DnsRecord.ok_fr f6 ow5
  have c6 := c5.fr0 f6
  refine (ldI_mk (c6.at0 rfl) (ldI_mk (c6.at rfl) (ldL_mk (c6.at rfl) (ldL_mk (c6.at rfl) ?_))))
  refine rEncodeShort_c ou6 ow6 fun h7 f7 => ⟨_, _, rfl, ?_⟩
  refine ifSameS (ifSameI (ifSameS (ifSameI ?_)))
  exact awake_c fun h8 f8 => ⟨_, rfl, hk h8 ((((((f1.trans f2).trans f4).trans f5).trans f6).trans f7).trans f8)⟩
theorem DnsRoundTrip_c [Gh] (x : S_api_Dns) {h : Heap} (ox : x.ok h) {Q : Value → Heap → Prop} (hk : ∀ h', Fr (fun _ => False) h h' → Q (.bool true) h') : CallT Tryd.prog fn_law29_DnsRoundTrip #[.agg x.vals.toArray] h Q := by
  obtain ⟨id, fl, u, w⟩ := x
  obtain ⟨_, _, ou, ow⟩ := ox
  apply law29_DnsRoundTrip_s
  unfold law29_DnsRoundTrip_v
  refine al_mk (vs := [.int .i64 id, .int .i64 fl, .slice u.p u.xs.length u.cap, .slice w.p w.xs.length w.cap]) fun t1 h1 f1 e1 o1 => ?_
  have c1 := o1.cells
  refine (ldI_mk (c1.at0 rfl) (ldI_mk (c1.at rfl) (ldL_mk (c1.at rfl) (ldL_mk (c1.at rfl) ?_))))
  have ou1 := SlOk.fr0 S_api_DnsQuestion.ok_fr f1 ou
  have ow1 := SlOk.fr0 S_api_DnsRecord.ok_fr f1 ow
  refine large_c ou1 ow1 (fun h2 f2 => ⟨_, rfl, ?_⟩) fun hul hwl hq hr h2 f2 => ⟨_, rfl, ?_⟩
  · rw [if_pos rfl]; exact awake_c fun h3 f3 => ⟨_, rfl, hk h3 ((f1.trans f2).trans f3)⟩
  rw [if_neg (by simp)]
  have hq' : ∀ q ∈ u.xs, q.Name.length ≤ 2 ^ 20 := fun q hm => by have := hq q hm; omega
  have hr' : ∀ r ∈ w.xs, r.Name.length ≤ 2 ^ 20 ∧ r.Data.length ≤ 2 ^ 20 := fun r hm => by have := hr r hm; omega
  have ou2 := SlOk.fr0 S_api_DnsQuestion.ok_fr f2 ou1
  have ow2 := SlOk.fr0 S_api_DnsRecord.ok_fr f2 ow1
  have o12 := o1.fr0 f2
  have c2 := o12.cells
  refine (ldI_mk (c2.at0 rfl) (ldI_mk (c2.at rfl) (ldL_mk (c2.at rfl) (ldL_mk (c2.at rfl) ?_))))
  refine Encode_c ou2 ow2 hq' hr' fun h4 f4 => ⟨_, _, rfl, ?_⟩
  have ou4 := SlOk.fr0 S_api_DnsQuestion.ok_fr f4 ou2
  have ow4 := SlOk.fr0 S_api_DnsRecord.ok_fr f4 ow2
  have c4 := c2.fr0 f4
  refine (ldI_mk (c4.at0 rfl) (ldI_mk (c4.at rfl) (ldL_mk (c4.at rfl) (ldL_mk (c4.at rfl) ?_))))
  refine EncodeShort_c ou4 ow4 hq' hr' fun h5 f5 => ⟨_, _, rfl, ?_⟩
  have ou5 := SlOk.fr0 S_api_DnsQuestion.ok_fr f5 ou4
  have ow5 := SlOk.fr0 S_api_DnsRecord.ok_fr f5 ow4
  have F5 := ((f1.trans f2).trans f4).trans f5
  refine ifNe (fun e => ?_) fun e => ?_
  · obtain ⟨g1, g2⟩ := enc_err e
    rw [g1]
    refine ifS (m := []) (fun _ => ?_) fun h => absurd rfl h
    refine ifE (fun _ => ?_) fun e2 => ?_
    · exact awake_c fun h6 f6 => ⟨_, rfl, hk h6 (F5.trans f6)⟩
    · rw [g2.resolve_left e2, if_pos (by decide)]
      exact awake_c fun h6 f6 => ⟨_, rfl, hk h6 (F5.trans f6)⟩
  obtain ⟨g1, g2⟩ := enc_short e
  have d1 := dec_enc false e
  have d2 := dec_enc true g1
  have hl1 : (encS false id fl u.xs w.xs).2.length ≤ 65535 := by
    unfold encS
    split
    · simp
    · split
      · simp
      · simp only; omega
  refine decode_c _ (by omega) fun p1 k1 p2 k2 h8 f8 R1 R2 => ?_
  rw [d1] at R1 R2 ⊢
  refine ⟨_, _, _, _, _, _, _, _, _, rfl, ?_⟩
  refine al_mk (vs := [.int .i64 0, .int .i64 0, .slice none 0 0, .slice none 0 0]) fun t7 h9 f9 e9 o9 => ?_
  refine stN_own o9 (ws := [.int .i64 id, .int .i64 fl, .slice p1 (smM id fl u.xs w.xs).qs.length k1, .slice p2 (smM id fl u.xs w.xs).rs.length k2]) (by rfl) (by rfl) fun h10 f10 s10 o10 => ?_
  have z8 := f8.size
  have F10 : Fr (fun _ => False) h8 h10 := f9.tr f10 fun b hb hi => by omega
  have R1 := R1.fr0 F10
  have R2 := R2.fr0 F10
  refine decode_c _ (by omega) fun q1 j1 q2 j2 h11 f11 R3 R4 => ?_
  rw [d2] at R3 R4 ⊢
  refine ⟨_, _, _, _, _, _, _, _, _, rfl, ?_⟩
  refine al_mk (vs := [.int .i64 0, .int .i64 0, .slice none 0 0, .slice none 0 0]) fun t9 h12 f12 e12 o12' => ?_
  refine stN_own o12' (ws := [.int .i64 id, .int .i64 fl, .slice q1 (smM id fl u.xs w.xs).qs.length j1, .slice q2 (smM id fl u.xs w.xs).rs.length j2]) (by rfl) (by rfl) fun h13 f13 s13 o13 => ?_
  have z11 := f11.size
  have F13 : Fr (fun _ => False) h11 h13 := f12.tr f13 fun b hb hi => by omega
  have R1 := (R1.fr0 f11).fr0 F13
  have R2 := (R2.fr0 f11).fr0 F13
  have R3 := R3.fr0 F13
  have R4 := R4.fr0 F13
  have c7 := (o10.fr0 f11).fr0 F13
  have cD := (((c4.fr0 f5).fr0 f8).fr0 F10).fr0 f11 |>.fr0 F13
  have G13 := (((F5.trans f8).trans F10).trans f11).trans F13
  have H13 : Fr (fun _ => False) h5 h13 := ((f8.trans F10).trans f11).trans F13
  rw [g1, if_pos (by rfl), if_pos (by rfl), if_pos (by rfl)]
  have c7c := c7.cells
  refine (ldI_mk (c7c.at0 rfl) (ldI_mk (c7c.at rfl) (ldL_mk (c7c.at rfl) (ldL_mk (c7c.at rfl) ?_))))
  refine (ldI_mk (cD.at0 rfl) (ldI_mk (cD.at rfl) (ldL_mk (cD.at rfl) (ldL_mk (cD.at rfl) ?_))))
  refine smallM_c (SlOk.fr0 S_api_DnsQuestion.ok_fr H13 ou5) (SlOk.fr0 S_api_DnsRecord.ok_fr H13 ow5) (by omega) (by omega) hq' hr' fun r1 i1 r2 i2 h14 f14 S1 S2 => ?_
  have ql : (smM id fl u.xs w.xs).qs.length ≤ 2 ^ 30 := by show (u.xs.map smQ).length ≤ _; rw [List.length_map]; omega
  have rl : (smM id fl u.xs w.xs).rs.length ≤ 2 ^ 30 := by show (w.xs.map smR).length ≤ _; rw [List.length_map]; omega
  refine ⟨_, _, _, _, _, _, _, _, rfl, ?_⟩
  have c74 := c7c.fr0 f14
  refine ⟨(ldI_mk (c74.at0 rfl) (ldI_mk (c74.at rfl) (ldL_mk (c74.at rfl) (ldL_mk (c74.at rfl) ?_)))), ?_⟩
  · rfl
  refine same_c (m := smM id fl u.xs w.xs) (R1.fr0 f14) (R2.fr0 f14) S1 S2 ql rl fun h15 f15 => ⟨_, rfl, ?_⟩
  rw [if_pos rfl]
  have F15 := f14.trans f15
  have c9 := (o13.fr0 F15).cells
  have cD5 := cD.fr0 F15
  refine (ldI_mk (c9.at0 rfl) (ldI_mk (c9.at rfl) (ldL_mk (c9.at rfl) (ldL_mk (c9.at rfl) ?_))))
  refine (ldI_mk (cD5.at0 rfl) (ldI_mk (cD5.at rfl) (ldL_mk (cD5.at rfl) (ldL_mk (cD5.at rfl) ?_))))
  refine smallM_c (SlOk.fr0 S_api_DnsQuestion.ok_fr (H13.trans F15) ou5) (SlOk.fr0 S_api_DnsRecord.ok_fr (H13.trans F15) ow5) (by omega) (by omega) hq' hr' fun r1 i1 r2 i2 h16 f16 S1 S2 => ?_
  refine ⟨_, _, _, _, _, _, _, _, rfl, ?_⟩
  have c96 := c9.fr0 f16
  refine ⟨(ldI_mk (c96.at0 rfl) (ldI_mk (c96.at rfl) (ldL_mk (c96.at rfl) (ldL_mk (c96.at rfl) ?_)))), ?_⟩
  · rfl
  refine same_c (m := smM id fl u.xs w.xs) (R3.fr0 (F15.trans f16)) (R4.fr0 (F15.trans f16)) S1 S2 ql rl fun h17 f17 => ⟨_, rfl, ?_⟩
  rw [if_pos rfl, bs_size, bs_size]
  refine ifD (fun _ => ?_) fun h => absurd g2 (by omega)
  exact awake_c fun h18 f18 => ⟨_, rfl, hk h18 (((G13.trans F15).trans f16).trans f17 |>.trans f18)⟩
end Go.Proofs.YtmjbcnbjedipdaaDoor
/-!
  The laws Accepts, Streams, Pieces.
-/
namespace Go.Proofs.YtmjbcnbjedipdaaDoor
set_option linter.unusedSimpArgs false
set_option linter.unusedVariables false
set_option maxRecDepth 20000
open Go
open Go.IntKind (wrap)
theorem kOk_mk {h : Heap} {n : Int} {k : Nat} (e : n = k) (hk : k < 4294967296) : (kOk .i64) h n := by
  subst e
  unfold kOk Lit.wf
  have h1 : IntKind.i64.min = -9223372036854775808 := by rfl
  have h2 : IntKind.i64.max = 9223372036854775807 := by rfl
  simp only
  rw [h1, h2, decide_eq_true (by omega), decide_eq_true (by omega)]; rfl
theorem Fine.oks {m : Msg} (F : Fine m) : (∀ x ∈ m.qs, ∀ h, S_api_DnsQuestion.ok h x) ∧ ∀ x ∈ m.rs, ∀ h, S_api_DnsRecord.ok h x := by
  refine ⟨fun x hx h => ?_, fun x hx h => ?_⟩
  · obtain ⟨h1, h2, k, h3, h4⟩ := qE_ok (F.q x hx).1
    exact ⟨by unfold sOk; omega, kOk_mk h3 (by omega)⟩
  · obtain ⟨h1, h2, ⟨k, h3, h4⟩, ⟨j, h5, h6⟩, h7, _⟩ := rE_ok (F.r x hx).1
    exact ⟨by unfold sOk; omega, kOk_mk h3 (by omega), kOk_mk h5 (by omega), by unfold sOk; omega⟩
theorem DnsAccepts_c [Gh] (s : List UInt8) {h : Heap} (_ : sOk h s) {Q : Value → Heap → Prop} (hk : ∀ h', Fr (fun _ => False) h h' → Q (.bool true) h') : CallT Tryd.prog fn_law29_DnsAccepts #[.string (bs s)] h Q := by
  apply law29_DnsAccepts_s
  unfold law29_DnsAccepts_v
  rw [bs_size]
  refine ifD (fun e => ?_) fun e => ?_
  · exact awake_c fun h1 f1 => ⟨_, rfl, hk h1 f1⟩
  refine decode_c s (by omega) fun p1 c1 p2 c2 h2 f2 R1 R2 => ?_
  refine ⟨_, _, _, _, _, _, _, _, _, rfl, ?_⟩
  refine al_mk (vs := [.int .i64 0, .int .i64 0, .slice none 0 0, .slice none 0 0]) fun t3 h3 f3 e3 o3 => ?_
  refine stN_own o3 (ws := [.int .i64 (decS s).2.Id, .int .i64 (decS s).2.Flags, .slice p1 (decS s).2.qs.length c1, .slice p2 (decS s).2.rs.length c2]) (by rfl) (by rfl) fun h4 f4 s4 o4 => ?_
  have z2 := f2.size
  have F4 : Fr (fun _ => False) h2 h4 := f3.tr f4 fun b hb hi => by omega
  have R1 := R1.fr0 F4
  have R2 := R2.fr0 F4
  have c4 := o4.cells
  have G4 := f2.trans F4
  refine ifNe (fun e1 => ?_) fun e1 => ?_
  · refine (ldI_mk (c4.at0 rfl) (ldI_mk (c4.at rfl) (ldL_mk (c4.at rfl) (ldL_mk (c4.at rfl) ?_))))
    have hb := dec_bad e1
    rw [hb] at R1 R2 ⊢
    refine same_c (m := emptyM) R1 R2 Row.nil Row.nil (by decide) (by decide) fun h5 f5 => ⟨_, rfl, ?_⟩
    rw [if_pos rfl]
    exact awake_c fun h6 f6 => ⟨_, rfl, hk h6 ((G4.trans f5).trans f6)⟩
  obtain ⟨F, en⟩ := accepts (by omega) e1
  have hsm := F.small
  generalize hm : (decS s).2 = m at *
  have de := dec_enc true en
  rw [hsm] at de
  have hl1 : (encS true m.Id m.Flags m.qs m.rs).2.length ≤ 65535 := by
    unfold encS
    split
    · simp
    · split
      · simp
      · simp only; omega
  have ql := F.ql
  have rl := F.rl
  obtain ⟨okq, okr⟩ := F.oks
  refine (ldI_mk (c4.at0 rfl) (ldI_mk (c4.at rfl) (ldL_mk (c4.at rfl) (ldL_mk (c4.at rfl) ?_))))
  have hq' : ∀ q ∈ m.qs, q.Name.length ≤ 2 ^ 20 := fun q hq => by have := (qE_ok (F.q q hq).1).1; omega
  have hr' : ∀ r ∈ m.rs, r.Name.length ≤ 2 ^ 20 ∧ r.Data.length ≤ 2 ^ 20 := fun r hr => by have := rE_ok (F.r r hr).1; have h2 := this.2.2.2.2.1; have h1 := this.1; omega
  refine EncodeShort_c (u := ⟨p1, c1, m.qs⟩) (w := ⟨p2, c2, m.rs⟩) (R1.sl qu_len (by omega) (by omega) fun x hx => okq x hx _) (R2.sl re_len (by omega) (by omega) fun x hx => okr x hx _) hq' hr' fun h7 f7 => ⟨_, _, rfl, ?_⟩
  have R1 := R1.fr0 f7
  have R2 := R2.fr0 f7
  refine decode_c _ (by show (encS true m.Id m.Flags m.qs m.rs).2.length ≤ _; omega) fun q1 j1 q2 j2 h8 f8 R3 R4 => ?_
  have de' : decS (encS true m.Id m.Flags (Sl.xs ⟨p1, c1, m.qs⟩) (Sl.xs ⟨p2, c2, m.rs⟩)).2 = (0, m) := de
  rw [de'] at R3 R4 ⊢
  refine ⟨_, _, _, _, _, _, _, _, _, rfl, ?_⟩
  refine al_mk (vs := [.int .i64 0, .int .i64 0, .slice none 0 0, .slice none 0 0]) fun t7 h9 f9 e9 o9 => ?_
  refine stN_own o9 (ws := [.int .i64 m.Id, .int .i64 m.Flags, .slice q1 m.qs.length j1, .slice q2 m.rs.length j2]) (by rfl) (by rfl) fun h10 f10 s10 o10 => ?_
  have F10 : Fr (fun _ => False) h8 h10 := f9.tr f10 fun b hb hi => by omega
  have G10 := f8.trans F10
  have R1 := R1.fr0 G10
  have R2 := R2.fr0 G10
  have R3 := R3.fr0 F10
  have R4 := R4.fr0 F10
  have cA := (c4.fr0 f7).fr0 G10
  have cB := o10.cells
  have en' : (encS true m.Id m.Flags (Sl.xs ⟨p1, c1, m.qs⟩) (Sl.xs ⟨p2, c2, m.rs⟩)).1 = 0 := en
  rw [en', if_pos (by rfl), if_pos (by rfl)]
  refine (ldI_mk (cA.at0 rfl) (ldI_mk (cA.at rfl) (ldL_mk (cA.at rfl) (ldL_mk (cA.at rfl) ?_))))
  refine (ldI_mk (cB.at0 rfl) (ldI_mk (cB.at rfl) (ldL_mk (cB.at rfl) (ldL_mk (cB.at rfl) ?_))))
  refine same_c R1 R2 R3 R4 (by omega) (by omega) fun h11 f11 => ⟨_, rfl, ?_⟩
  rw [if_pos rfl]
  have R1 := R1.fr0 f11
  have R2 := R2.fr0 f11
  have cA1 := cA.fr0 f11
  refine (ldI_mk (cA1.at0 rfl) (ldI_mk (cA1.at rfl) (ldL_mk (cA1.at rfl) (ldL_mk (cA1.at rfl) ?_))))
  refine (ldI_mk (cA1.at0 rfl) (ldI_mk (cA1.at rfl) (ldL_mk (cA1.at rfl) (ldL_mk (cA1.at rfl) ?_))))
  refine smallM_c (u := ⟨p1, c1, m.qs⟩) (w := ⟨p2, c2, m.rs⟩) (R1.sl qu_len (by omega) (by omega) fun x hx => okq x hx _) (R2.sl re_len (by omega) (by omega) fun x hx => okr x hx _) (by show m.qs.length ≤ _; omega) (by show m.rs.length ≤ _; omega) hq' hr' fun r1 i1 r2 i2 h12 f12 S1 S2 => ?_
  have mq : m.qs.map smQ = m.qs := map_same fun x hx => (F.q x hx).2
  have mr : m.rs.map smR = m.rs := map_same fun x hx => (F.r x hx).2
  dsimp only at S1 S2 ⊢
  rw [mq] at S1 ⊢
  rw [mr] at S2 ⊢
  refine ⟨_, _, _, _, _, _, _, _, rfl, ?_⟩
  have cA2 := cA1.fr0 f12
  refine ⟨(ldI_mk (cA2.at0 rfl) (ldI_mk (cA2.at rfl) (ldL_mk (cA2.at rfl) (ldL_mk (cA2.at rfl) ?_)))), ?_⟩
  · rfl
  refine same_c (R1.fr0 f12) (R2.fr0 f12) S1 S2 (by omega) (by omega) fun h13 f13 => ⟨_, rfl, ?_⟩
  rw [if_pos rfl]
  exact awake_c fun h14 f14 => ⟨_, rfl, hk h14 ((((((G4.trans f7).trans G10).trans f11).trans f12).trans f13).trans f14)⟩
end Go.Proofs.YtmjbcnbjedipdaaDoor
/-!
  The laws Streams and Pieces.
-/
namespace Go.Proofs.YtmjbcnbjedipdaaDoor
set_option linter.unusedSimpArgs false
set_option linter.unusedVariables false
set_option maxRecDepth 20000
open Go
open Go.IntKind (wrap)
theorem feedS_len : ∀ (n : Nat) (s : Nm), s.length ≤ n → (feedS s).1.length + (feedS s).2.1.length ≤ s.length
  | n, s, hn => by
    by_cases h2 : s.length < 2
    · rw [feedS_short h2]; simp
    · by_cases h3 : num s 0 2 < 12
      · rw [feedS_bad h2 h3]; simp
      · by_cases h4 : s.length < 2 + num s 0 2
        · rw [feedS_wait h2 h3 h4]; simp
        · rw [feedS_go h2 h3 h4]
          cases n with
          | zero => omega
          | succ n =>
            have := feedS_len n (s.drop (2 + num s 0 2)) (by rw [List.length_drop]; omega)
            rw [List.length_drop] at this
            simp only [List.length_cons]; omega
structure FOut where
  out : List Nm
  e : Int
  rest : Nm
  dead : Bool
def feedF (rest : Nm) (dead : Bool) (s : Nm) : FOut := if dead = true then ⟨[], 10, rest, true⟩ else ⟨(feedS (rest ++ s)).1, if (feedS (rest ++ s)).2.2 = true then 2 else 0, (feedS (rest ++ s)).2.1, (feedS (rest ++ s)).2.2⟩
theorem feedF_len (rest : Nm) (dead : Bool) (s : Nm) : (feedF rest dead s).out.length ≤ rest.length + s.length ∧ (feedF rest dead s).rest.length ≤ rest.length + s.length := by
  unfold feedF
  have := feedS_len _ (rest ++ s) (Nat.le_refl _)
  rw [List.length_append] at this
  split
  · simp
  · simp only; omega
def FeedA (h : Heap) (t : Addr) (T : TypeId) (r : FOut) (Q : Value → Heap → Prop) : Prop :=
  ∀ p c h', Fr (fun b => b = t.block) h h' → Row 1 strV h' p c r.out → (∀ b, InA p b → h.size ≤ b) → StF h' t T r.rest r.dead → Q (.tuple #[.slice p r.out.length c, .int .i64 r.e]) h'
theorem feedA_c [Gh] {h : Heap} {t : Addr} {rest : Nm} {dead : Bool} (F : StF h t T_dns_Stream rest dead) (s : Nm) (hl : rest.length + s.length ≤ 2 ^ 28) {Q : Value → Heap → Prop} (hk : FeedA h t T_dns_Stream (feedF rest dead s) Q) : CallT Tryd.prog fn_dns_Stream_Feed #[.pointer (some t), .string (bs s)] h Q := by
  cases dead with
  | true => exact feed_dead F s (hk none 0 h (Fr.refl _ _) Row.nil (fun b hb => (notInA hb).elim) F)
  | false => exact feed_c F s hl fun p c h' f R i F' => hk p c h' f R i F'
theorem rfeedA_c [Gh] {h : Heap} {t : Addr} {rest : Nm} {dead : Bool} (F : StF h t T_intrusionref29_Stream rest dead) (s : Nm) (hl : rest.length + s.length ≤ 2 ^ 28) {Q : Value → Heap → Prop} (hk : FeedA h t T_intrusionref29_Stream (feedF rest dead s) Q) : CallT Tryd.prog fn_ref29_Stream_Feed #[.pointer (some t), .string (bs s)] h Q := by
  cases dead with
  | true => exact rfeed_dead F s (hk none 0 h (Fr.refl _ _) Row.nil (fun b hb => (notInA hb).elim) F)
  | false => exact rfeed_c F s hl fun p c h' f R i F' => hk p c h' f R i F'
abbrev StrsOk (h : Heap) (s : Sl (List UInt8)) : Prop := SlOk 1 (fun l : List UInt8 => [Value.string (bs l)]) sOk h s
theorem StrsOk.fr0 {h h' : Heap} {s : Sl (List UInt8)} (f : Fr (fun _ => False) h h') (o : StrsOk h s) : StrsOk h' s := SlOk.fr0 (fun _ _ _ _ o => o) f o
theorem StrsOk.ix {h : Heap} {s : Sl (List UInt8)} (o : StrsOk h s) (i : Nat) (hi : i < s.xs.length) : ∃ ad, s.p = some ad ∧ Cells h (ad.add (i * 1)) [.string (bs s.xs[i])] := by
  obtain ⟨ad, h1, h2, _⟩ := o.at_ i hi; exact ⟨ad, h1, h2⟩
theorem DnsStreams_c [Gh] (s : Sl (List UInt8)) {h : Heap} (o : SlOk 1 (fun l : List UInt8 => [Value.string (bs l)]) sOk h s) {Q : Value → Heap → Prop} (hk : ∀ h', Fr (fun _ => False) h h' → Q (.bool true) h') : CallT Tryd.prog fn_law29_DnsStreams #[.slice s.p s.xs.length s.cap] h Q := by
  have o : StrsOk h s := o
  apply law29_DnsStreams_s
  unfold law29_DnsStreams_v
  refine ifD (fun e => ?_) fun e => ?_
  · exact awake_c fun h1 f1 => ⟨_, rfl, hk h1 f1⟩
  refine newStream_c fun ta h2 f2 e2 A2 => ⟨_, rfl, ?_⟩
  refine rNewStream_c fun tb h3 f3 e3 B3 => ⟨_, rfl, ifNS ?_⟩
  have A3 := A2.fr f3 id
  have z2 := f2.size
  have z3 := f3.size
  have l2 := A2.lt
  have l3 := B3.lt
  refine LoopV.go (fun n st h' => ∃ (i : Nat) (rest : Nm) (dead : Bool), st = (i : Int) ∧ i ≤ s.xs.length ∧ n = s.xs.length - i ∧ Fr (fun _ => False) h h' ∧ StF h' ta T_dns_Stream rest dead ∧ StF h' tb T_intrusionref29_Stream rest dead ∧ rest.length ≤ 2000 * i) s.xs.length
    ⟨0, [], false, rfl, by omega, rfl, f2.trans f3, A3, B3, by simp⟩ ?_
  rintro n - h4 ⟨i, rest, dead, rfl, hi, rfl, f4, A4, B4, hr⟩ Kn hK
  have z4 := f4.size
  unfold law29_DnsStreams_l1
  refine ifD (fun e1 => ?_) fun e1 => ?_
  · have hlt : i < s.xs.length := by omega
    obtain ⟨ad, had, cc⟩ := o.ix i hlt
    have ix : ∀ {K : Addr → Prop}, K ad → idxA (i : Int) s.xs.length (nn s.p fun a => K a) := fun hK => idxA_mk i rfl hlt (by rw [had]; exact nn_mk hK)
    generalize s.xs[i] = x at *
    have c4 := cc.fr0 f4
    refine ix ?_
    rw [Int.toNat_natCast]
    refine ldS_mk (c4.at0 rfl) ?_
    rw [bs_size]
    refine ifD (fun _ => ?_) fun e2 => ?_
    · exact awake_c fun h5 f5 => ⟨_, rfl, hk h5 (f4.trans f5)⟩
    refine ix (ldS_mk (c4.at0 rfl) ?_)
    have hfl := feedF_len rest dead x
    refine feedA_c A4 x (by omega) fun p c h5 f5 R5 i5 A5 => ?_
    refine ⟨_, _, _, _, rfl, ?_⟩
    have f5' : Fr (fun _ => False) h h5 := f4.tr f5 fun b hb hi => by omega
    have z5 := f5.size
    refine ix (ldS_mk ((cc.fr0 f5').at0 rfl) ?_)
    refine rfeedA_c (B4.fr f5 (by omega)) x (by omega) fun q d h6 f6 R6 i6 B6 => ?_
    refine ⟨_, _, _, _, rfl, ?_⟩
    have f6' : Fr (fun _ => False) h h6 := f5'.tr f6 fun b hb hi => by omega
    have R5 := R5.fr f6 fun b hb h => by have := i5 b hb; have := B4.lt; omega
    have A6 := A5.fr f6 (by omega)
    refine ifSameN (ifSameN ?_)
    generalize (feedF rest dead x) = r at *
    refine LoopV.go (fun n st h' => ∃ j : Nat, st = (j : Int) ∧ j ≤ r.out.length ∧ n = r.out.length - j ∧ h' = h6) r.out.length ⟨0, rfl, by omega, rfl, rfl⟩ ?_
    rintro n - h7 ⟨j, rfl, hj, rfl, rfl⟩ Kn2 hK2
    unfold law29_DnsStreams_l2
    refine ifD (fun e3 => ?_) fun e3 => ?_
    · have hjl : j < r.out.length := by omega
      refine R5.idx strV_len (by omega) j rfl hjl fun a1 k1 => ?_
      have k1 : Cells h7 (a1.add (j * 1)) [.string (bs r.out[j])] := k1
      rw [Int.toNat_natCast]
      refine ldS_mk (k1.at0 rfl) ?_
      refine R6.idx strV_len (by omega) j rfl hjl fun a2 k2 => ?_
      have k2 : Cells h7 (a2.add (j * 1)) [.string (bs r.out[j])] := k2
      refine ldS_mk (k2.at0 rfl) ?_
      rw [if_neg (by simp), wr (by omega) (by omega)]
      exact hK2 (r.out.length - (j + 1)) _ _ (by omega) ⟨j + 1, rfl, hjl, rfl, rfl⟩
    · rw [wr (by omega) (by omega)]
      exact hK (s.xs.length - (i + 1)) _ _ (by omega) ⟨i + 1, r.rest, r.dead, rfl, hlt, rfl, f6', A6, B6, by omega⟩
  · unfold law29_DnsStreams_b3
    exact awake_c fun h5 f5 => ⟨_, rfl, hk h5 (f4.trans f5)⟩
theorem appSL [Gh] {h : Heap} {p q : Option Addr} {cap qc : Nat} {L M : List Nm} (R : Row 1 strV h p cap L) (R2 : Row 1 strV h q qc M) (hl : L.length + M.length ≤ 2 ^ 30) {K : Value → Heap → Prop}
    (hk : ∀ p' cap' h', Row 1 strV h' p' cap' (L ++ M) → Fr (InA p) h h' → (∀ b, InA p' b → InA p b ∨ h.size ≤ b) → K (.slice p' (L ++ M).length cap') h') :
    bltV Tryd.prog .append #[T_sl_string, T_sl_string] T_sl_string #[false, false] #[.slice p L.length cap, .slice q M.length qc] h K :=
  R.appL el_str Tryd.underlying36 (by intro k e; cases e) (by kernel_rfl) (by decide +kernel) strV_len (fun _ => rfl) (R2.src strV_len (by omega)) hl hk
theorem cat2_take (l : List Nm) (i : Nat) (hi : i < l.length) : cat2 (l.take (i + 1)) = cat2 (l.take i) ++ beB 2 l[i].length ++ l[i] := by
  unfold cat2
  rw [show l.take (i + 1) = l.take i ++ [l[i]] by rw [List.take_append_getElem], List.flatMap_append]; simp
theorem cat2_len : ∀ (l : List Nm), (∀ x ∈ l, x.length ≤ 300) → (cat2 l).length ≤ 302 * l.length
  | [], _ => by decide
  | x :: l, h => by
    have := cat2_len l fun y hy => h y (List.mem_cons_of_mem _ hy)
    have hx := h x (List.mem_cons_self ..)
    have e : cat2 (x :: l) = beB 2 x.length ++ x ++ cat2 l := by unfold cat2; rw [List.flatMap_cons]
    rw [e, List.length_append, List.length_append, beB_len, List.length_cons]; omega
theorem DnsPieces_c [Gh] (l : Sl (List UInt8)) (at_ : Int) {h : Heap} (o : SlOk 1 (fun l : List UInt8 => [Value.string (bs l)]) sOk h l) (_ : kOk .i64 h at_) {Q : Value → Heap → Prop} (hk : ∀ h', Fr (fun _ => False) h h' → Q (.bool true) h') : CallT Tryd.prog fn_law29_DnsPieces #[.slice l.p l.xs.length l.cap, .int .i64 at_] h Q := by
  have o : StrsOk h l := o
  apply law29_DnsPieces_s
  unfold law29_DnsPieces_v
  refine ifD (fun e => ?_) fun e => ?_
  · exact awake_c fun h1 f1 => ⟨_, rfl, hk h1 f1⟩
  refine LoopV.go (fun n st h' => ∃ i : Nat, st.1 = bs (cat2 (l.xs.take i)) ∧ st.2 = (i : Int) ∧ i ≤ l.xs.length ∧ n = l.xs.length - i ∧ Fr (fun _ => False) h h' ∧ ∀ x ∈ l.xs.take i, 12 ≤ x.length ∧ x.length ≤ 300) l.xs.length
    ⟨0, rfl, rfl, by omega, rfl, Fr.refl _ _, by simp⟩ ?_
  rintro n ⟨st1, st2⟩ h1 ⟨i, hs1, hs2, hi, rfl, f1, hall⟩ Kn hK
  simp only at hs1 hs2
  subst hs1 hs2
  unfold law29_DnsPieces_l1
  dsimp only
  have hcl := cat2_len (l.xs.take i) fun x hx => (hall x hx).2
  rw [List.length_take] at hcl
  refine ifD (fun e1 => ?_) fun e1 => ?_
  · have hlt : i < l.xs.length := by omega
    obtain ⟨ad, had, cc⟩ := o.ix i hlt
    have ix : ∀ {K : Addr → Prop}, K ad → idxA (i : Int) l.xs.length (nn l.p fun a => K a) := fun hK => idxA_mk i rfl hlt (by rw [had]; exact nn_mk hK)
    have htk := cat2_take l.xs i hlt
    have hmem : ∀ {P : Nm → Prop}, (∀ x ∈ l.xs.take i, P x) → P l.xs[i] → ∀ x ∈ l.xs.take (i + 1), P x := fun h1 h2 x hx => by
      rw [show l.xs.take (i + 1) = l.xs.take i ++ [l.xs[i]] by rw [List.take_append_getElem]] at hx
      rcases List.mem_append.1 hx with h | h
      · exact h1 x h
      · rw [List.mem_singleton] at h; subst h; exact h2
    have hmem := hmem hall
    generalize l.xs[i] = x at *
    have c1 := cc.fr0 f1
    refine ix ?_
    rw [Int.toNat_natCast]
    refine ldS_mk (c1.at0 rfl) ?_
    rw [bs_size]
    refine ifD (fun _ => ?_) fun e2 => ?_
    · exact awake_c fun h5 f5 => ⟨_, rfl, hk h5 (f1.trans f5)⟩
    refine ix (ldS_mk (c1.at0 rfl) ?_)
    rw [bs_size]
    refine ifD (fun _ => ?_) fun e3 => ?_
    · exact awake_c fun h5 f5 => ⟨_, rfl, hk h5 (f1.trans f5)⟩
    refine ix (ldS_mk (c1.at0 rfl) (ix (ldS_mk (c1.at0 rfl) ?_)))
    rw [bs_size]
    refine put_c x.length 2 (by omega) (by omega) (by omega) fun h2 f2 => ⟨_, rfl, ldS_ ((c1.fr0 f2).at0 rfl), ?_⟩
    rw [bs_append, bs_size, bs_size, bs_append, bs_size, List.length_append, beB_len, imax, ← htk]
    refine ⟨by omega, by omega, ?_⟩
    rw [wr (by omega) (by omega)]
    exact hK (l.xs.length - (i + 1)) _ _ (by omega) ⟨i + 1, rfl, rfl, hlt, rfl, f1.trans f2, hmem ⟨by omega, by omega⟩⟩
  have hil : i = l.xs.length := by omega
  subst hil
  rw [List.take_length] at hall ⊢
  have hfa := feed_all l.xs hall
  generalize hs : cat2 l.xs = s at *
  have hsl : s.length ≤ 302 * 20 := by rw [← hs]; have := cat2_len l.xs fun x hx => (hall x hx).2; omega
  clear hK hcl
  unfold law29_DnsPieces_b2
  refine newStream_c fun ta h2 f2 e2 A2 => ⟨_, rfl, ?_⟩
  refine newStream_c fun tb h3 f3 e3 B3 => ⟨_, rfl, ifNS (ifNS ?_)⟩
  have A3 := A2.fr f3 id
  have z1 := f1.size
  have z2 := f2.size
  have z3 := f3.size
  have l2 := A2.lt
  have l3 := B3.lt
  obtain ⟨k, hkk, hkl⟩ : ∃ k : Nat, (if (((bs s).size : Nat) : Int) < (if (0 : Int) > at_ then (0 : Int) else at_) then (((bs s).size : Nat) : Int) else (if (0 : Int) > at_ then (0 : Int) else at_)) = (k : Int) ∧ k ≤ s.length := by
    rw [bs_size]
    by_cases h0 : (0 : Int) > at_
    · rw [if_pos h0, if_neg (by omega)]
      exact ⟨0, rfl, Nat.zero_le _⟩
    · rw [if_neg h0]
      by_cases h1 : ((s.length : Nat) : Int) < at_
      · rw [if_pos h1]; exact ⟨s.length, rfl, Nat.le_refl _⟩
      · rw [if_neg h1]; exact ⟨at_.toNat, by omega, by omega⟩
  rw [hkk]
  have hcut : s.take k ++ s.drop k = s := List.take_append_drop k s
  have hal : (feedS (s.take k)).2.2 = false := feed_alive (b := s.drop k) (by rw [hcut, hfa])
  have hfb := feed_app (a := s.take k) (b := s.drop k) hal
  rw [hcut, hfa] at hfb
  have htl : (s.take k).length = k := by rw [List.length_take]; omega
  have hl1 := feedS_len _ (s.take k) (Nat.le_refl _)
  rw [htl] at hl1
  refine slT s k rfl hkl ?_
  refine feed_c A3 (s.take k) (by simp only [List.length_nil]; omega) fun p1 c1 h4 f4 R4 i4 A4 => ?_
  rw [List.nil_append] at R4 A4 ⊢
  rw [hal] at A4 ⊢
  refine ⟨_, _, _, _, rfl, ?_⟩
  refine slF s k rfl hkl ?_
  refine feed_c A4 (s.drop k) (by rw [List.length_drop]; omega) fun p2 c2 h5 f5 R5 i5 A5 => ?_
  refine ⟨_, _, _, _, rfl, ?_⟩
  have hl2 := feedS_len _ ((feedS (s.take k)).2.1 ++ s.drop k) (Nat.le_refl _)
  rw [List.length_append, List.length_drop] at hl2
  generalize (feedS (s.take k)).1 = m1 at *
  generalize (feedS (s.take k)).2.1 = r1 at *
  generalize feedS (r1 ++ s.drop k) = g2 at *
  simp only [Prod.mk.injEq] at hfb
  obtain ⟨hm, hg⟩ := hfb
  have hg2 : g2.2.2 = false := by rw [← hg]
  rw [hg2]
  rw [if_neg (show ¬ (false = true) by decide)]
  have z4 := f4.size
  have z5 := f5.size
  have R4 := R4.fr f5 fun b hb h => by have := i4 b hb; omega
  refine appSL R4 R5 (by omega) fun px cx h6 Rx f6 hnx => ⟨_, _, _, rfl, ?_⟩
  rw [← hm] at Rx ⊢
  have F6 : Fr (fun _ => False) h h6 := ((((f1.trans f2).trans f3).tr f4 fun b hb hi => by omega).tr f5 fun b hb hi => by omega).tr f6 fun b hb hi => by have := i4 b hi; omega
  have B6 : StF h6 tb T_dns_Stream [] false := ((B3.fr f4 (by omega)).fr f5 (by omega)).fr f6 fun h => by have := i4 _ h; omega
  have z6 := F6.size
  have z6' := f6.size
  refine al_mk (vs := []) fun t88 h7 f7 e7 o7 => ?_
  have R7 : Row 1 strV h7 (some t88) 0 ([] : List Nm) := Row.of_own (L := []) (T := T_string) strV_len o7
  have hpx : ∀ b, InA px b → h3.size ≤ b := fun b hb => by
    rcases hnx b hb with h | h
    · exact i4 b h
    · omega
  have z7 := f7.size
  rw [bs_size]
  have lpx : ∀ b, InA px b → b < h6.size := fun b hb => Rx.lt hb
  refine LoopV.go (fun n st h' => ∃ i : Nat, st.2.2.2 = (i : Int) ∧ st.2.1 = (feedS (s.take i)).1.length ∧ i ≤ s.length ∧ n = s.length - i ∧ Fr (fun b => b = tb.block ∨ h6.size ≤ b) h6 h' ∧ h6.size ≤ h'.size ∧ Row 1 strV h' st.1 st.2.2.1 (feedS (s.take i)).1 ∧ (∀ b, InA st.1 b → h6.size ≤ b) ∧ StF h' tb T_dns_Stream (feedS (s.take i)).2.1 false) s.length
    ⟨0, rfl, by rw [List.take_zero, feedS_short (by decide)]; rfl, by omega, rfl, f7.mono fun _ h => h.elim, by omega, by rw [List.take_zero, feedS_short (by decide)]; exact R7, fun b hb => (by obtain ⟨ad, he, hb⟩ := hb; cases he; omega), by rw [List.take_zero, feedS_short (by decide)]; exact B6.fr f7 id⟩ ?_
  rintro n ⟨pz, nz, cz, i8⟩ h8 ⟨i, hi8, hnz, hi, rfl, f8, z8, Rz, hpz, B8⟩ Kn hK
  have hi8 : i8 = (i : Int) := hi8
  have hnz : nz = (feedS (s.take i)).1.length := hnz
  subst hi8 hnz
  dsimp only at Rz hpz ⊢
  unfold law29_DnsPieces_l3
  refine ifD (fun e1 => ?_) fun e1 => ?_
  · have hlt : i < s.length := by omega
    have hst : s.take (i + 1) = s.take i ++ [s[i]] := by rw [List.take_append_getElem]
    have hal1 : (feedS (s.take (i + 1))).2.2 = false := feed_alive (b := s.drop (i + 1)) (by rw [List.take_append_drop, hfa])
    have hal0 : (feedS (s.take i)).2.2 = false := feed_alive (b := s.drop i) (by rw [List.take_append_drop, hfa])
    have hfi := feed_app (a := s.take i) (b := [s[i]]) hal0
    rw [← hst] at hfi
    have hli := feedS_len _ (s.take i) (Nat.le_refl _)
    rw [List.length_take] at hli
    have hone : (s.drop i).take (i + 1 - i) = [s[i]] := by rw [Nat.add_sub_cancel_left, List.drop_eq_getElem_cons hlt]; rfl
    refine slS s i (i + 1) rfl (by rw [wr (by omega) (by omega)]; omega) (by omega) (by omega) ?_
    rw [hone]
    refine feed_c B8 [s[i]] (by simp only [List.length_singleton]; omega) fun p9 c9 h9 f9 R9 i9 B9 => ?_
    refine ⟨_, _, _, _, rfl, ?_⟩
    have hlj := feedS_len _ ((feedS (s.take i)).2.1 ++ [s[i]]) (Nat.le_refl _)
    rw [List.length_append, List.length_singleton] at hlj
    have e1 : (feedS (s.take (i + 1))).1 = (feedS (s.take i)).1 ++ (feedS ((feedS (s.take i)).2.1 ++ [s[i]])).1 := by rw [hfi]
    have e2 : (feedS (s.take (i + 1))).2 = (feedS ((feedS (s.take i)).2.1 ++ [s[i]])).2 := by rw [hfi]
    rw [← e2] at B9 ⊢
    rw [hal1] at B9 ⊢
    rw [if_neg (show ¬ (false = true) by decide)]
    refine ifSameN ?_
    have z9 := f9.size
    have Rz := Rz.fr f9 fun b hb h => by have := hpz b hb; omega
    refine appSL Rz R9 (by omega) fun p10 c10 h10 R10 f10 hn10 => ⟨_, _, _, rfl, ?_⟩
    rw [← e1] at R10 ⊢
    rw [wr (by omega) (by omega)]
    have z10 := f10.size
    refine hK (s.length - (i + 1)) _ _ (by omega) ⟨i + 1, rfl, rfl, hlt, rfl, (f8.trans (f9.mono fun b h => .inl h)).trans (f10.mono fun b h => .inr (hpz b h)), by omega, R10, fun b hb => ?_, B9.fr f10 fun h => by have := hpz _ h; omega⟩
    rcases hn10 b hb with h | h
    · exact hpz b h
    · omega
  have hil : i = s.length := by omega
  subst hil
  rw [List.take_length, hfa] at Rz ⊢
  simp only at Rz ⊢
  unfold law29_DnsPieces_b4
  refine ifSameN (ifSameN (ifSameN (ifSameN ?_)))
  have Rx8 := Rx.fr f8 fun b hb h => by
    rcases h with h | h
    · have := hpx b hb; omega
    · have := lpx b hb; omega
  have F8 : Fr (fun _ => False) h h8 := F6.tr f8 fun b hb hi => by omega
  refine LoopV.go (fun n st h' => ∃ j : Nat, st = (j : Int) ∧ j ≤ l.xs.length ∧ n = l.xs.length - j ∧ h' = h8) l.xs.length ⟨0, rfl, by omega, rfl, rfl⟩ ?_
  rintro n - h9 ⟨j, rfl, hj, rfl, rfl⟩ Kn2 hK2
  unfold law29_DnsPieces_l5
  refine ifD (fun e3 => ?_) fun e3 => ?_
  · have hjl : j < l.xs.length := by omega
    obtain ⟨ad, had, cc⟩ := o.ix j hjl
    have ix : ∀ {K : Addr → Prop}, K ad → idxA (j : Int) l.xs.length (nn l.p fun a => K a) := fun hK => idxA_mk j rfl hjl (by rw [had]; exact nn_mk hK)
    have c9 := cc.fr0 F8
    refine Rx8.idx strV_len (by omega) j rfl hjl fun a1 k1 => ?_
    have k1 : Cells h9 (a1.add (j * 1)) [.string (bs l.xs[j])] := k1
    rw [Int.toNat_natCast]
    refine ldS_mk (k1.at0 rfl) (ix (ldS_mk (c9.at0 rfl) ?_))
    rw [if_neg (by simp)]
    refine Rz.idx strV_len (by omega) j rfl hjl fun a2 k2 => ?_
    have k2 : Cells h9 (a2.add (j * 1)) [.string (bs l.xs[j])] := k2
    refine ldS_mk (k2.at0 rfl) (ix (ldS_mk (c9.at0 rfl) ?_))
    rw [if_neg (by simp), wr (by omega) (by omega)]
    exact hK2 (l.xs.length - (j + 1)) _ _ (by omega) ⟨j + 1, rfl, hjl, rfl, rfl⟩
  · unfold law29_DnsPieces_b6
    exact awake_c fun h5 f5 => ⟨_, rfl, hk h5 (F8.trans f5)⟩
end Go.Proofs.YtmjbcnbjedipdaaDoor
