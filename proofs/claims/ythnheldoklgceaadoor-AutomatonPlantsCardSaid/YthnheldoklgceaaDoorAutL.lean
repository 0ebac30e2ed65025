/-
  Build, up to the links, whole.
-/
import Derived.Test.YthnheldoklgceaaDoorAutK
namespace Go.Proofs.YthnheldoklgceaaDoor
set_option linter.unusedSimpArgs false
set_option linter.unusedVariables false
set_option maxRecDepth 20000
open Go
open Go.IntKind (wrap)
theorem tag4 {o : Tag} {k m : Nat} (n0 n1 n2 n3 m' : Nat) : ∀ x, n0 ≤ x → x < m → k ≤ upT (upT (upT (upT o n0 k) n1 (k + 2)) n2 k) n3 (k + 1) x ∧ upT (upT (upT (upT o n0 k) n1 (k + 2)) n2 k) n3 (k + 1) x < k + 70000 := fun x hx _ => by
  unfold upT
  split
  · split
    · split
      · rw [if_neg (by omega)]; omega
      · omega
    · omega
  · omega
theorem tag5 {o : Tag} {k m : Nat} (n0 n1 n2 n3 m' : Nat) : ∀ x, n0 ≤ x → x < m → k ≤ upT (upT (upT (upT o n0 k) n1 k) n2 (k + 2)) n3 (k + 1) x ∧ upT (upT (upT (upT o n0 k) n1 k) n2 (k + 2)) n3 (k + 1) x < k + 70000 := fun x hx _ => by
  unfold upT
  split
  · split
    · split
      · rw [if_neg (by omega)]; omega
      · omega
    · omega
  · omega
theorem errL_cons (p : Pt) (l : List Pt) : errL (p :: l) = if p.t = [] then 2 else if p.t.length > 64 then 3 else errL l := rfl
theorem build_pre [Gh] (s : Sl Pt) {ok : Heap → Pt → Prop} {h : Heap} (os : SlOk 2 ptV ok h s) (okf : ∀ h h' x, Fr (fun _ => False) h h' → ok h x → ok h' x) (hl : s.xs.length ≤ 2 ^ 20) (o : Tag) (k : Nat) (hold : ∀ x, x < h.size → o x ≤ k) {Q : Value → Heap → Prop}
    (hbad : ∀ h', Fr (fun _ => False) h h' → s.xs.length > 512 → Q (.tuple #[.pointer none, .int .i64 3]) h')
    (herr : ∀ h', Fr (fun _ => False) h h' → s.xs.length ≤ 512 → errL s.xs ≠ 0 → Q (.tuple #[.pointer none, .int .i64 (errL s.xs)]) h')
    (hk : ∀ a o' h' sg ws pq pc, Old h o o' → (∀ x, h.size ≤ x → x < h'.size → k ≤ o' x ∧ o' x < k + 70000) → Fr (fun _ => False) h h' → AutF o' k h' a sg pq s.xs.length pc → Row 2 ptV h' pq pc s.xs → (∀ x, InA pq x → h.size ≤ x ∧ o' x = k) → Trie sg ws (endsL s.xs s.xs.length) → (∀ w, w ∈ ws ↔ isPre s.xs s.xs.length w) → ws.length ≤ 40000 → s.xs.length ≤ 512 → errL s.xs = 0 → automaton_Build_b4 a Q h') :
    CallT Tryd.prog fn_automaton_Build #[.slice s.p s.xs.length s.cap] h Q := by
  apply automaton_Build_s
  unfold automaton_Build_v
  refine ifD (fun e => hbad h (Fr.refl _ _) (by omega)) fun e => ?_
  have hl512 : s.xs.length ≤ 512 := by omega
  have S : ∀ h', Fr (fun _ => False) h h' → PtOk h' s.p s.xs := fun h' f i hi => by
    obtain ⟨ad, h1, h2, _⟩ := os.at_ i hi; exact ⟨ad, h1, h2.fr0 f⟩
  refine LoopV.go (fun n st h' => ∃ i : Nat, st = (i : Int) ∧ i ≤ s.xs.length ∧ n = s.xs.length - i ∧ Fr (fun _ => False) h h' ∧ errL s.xs = errL (s.xs.drop i)) s.xs.length ⟨0, rfl, by omega, rfl, Fr.refl _ _, by rw [List.drop_zero]⟩ ?_
  rintro n - h1 ⟨i, rfl, hi, rfl, f1, he⟩ Kn hK
  unfold automaton_Build_l1
  refine ifD (fun e2 => ?_) fun e2 => ?_
  · have hil : i < s.xs.length := by omega
    rw [List.drop_eq_getElem_cons hil] at he
    rw [errL_cons] at he
    refine (S h1 f1).get i rfl hil fun ad ci => ?_
    rw [Int.toNat_natCast]
    refine ldS_mk (ci.at0 rfl) (ldB_mk (ci.at (j := 1) rfl) ?_)
    refine al_mk (vs := [.string (bs []), .bool false]) fun t5 h2 f2 e2 o2 => ?_
    refine stN_own o2 (ws := [.string (bs s.xs[i].t), .bool s.xs[i].nc]) (by rfl) (by rfl) fun h3 f3 s3 o3 => ?_
    have F3 : Fr (fun _ => False) h h3 := f1.trans (f2.tr f3 fun b hb hi => by omega)
    refine ldS_mk (o3.cells.at0 rfl) (ifS (m := []) (fun e3 => ?_) fun e3 => ?_)
    · rw [if_pos e3] at he
      have := herr h3 F3 hl512
      rw [he] at this; exact this (by decide)
    rw [if_neg e3] at he
    refine ldS_mk (o3.cells.at0 rfl) ?_
    rw [bs_size]
    refine ifD (fun e4 => ?_) fun e4 => ?_
    · rw [if_pos (by omega)] at he
      have := herr h3 F3 hl512
      rw [he] at this; exact this (by decide)
    rw [if_neg (by omega)] at he
    rw [wr (by omega) (by omega)]
    exact hK (s.xs.length - (i + 1)) _ _ (by omega) ⟨i + 1, rfl, hil, rfl, F3, he⟩
  · have hie : i = s.xs.length := by omega
    subst hie
    rw [List.drop_length] at he
    have he : errL s.xs = 0 := he
    have hps : ∀ p ∈ s.xs, p.t.length ≤ 64 := fun p hp => (errL_ok he p hp).2
    have os1 := SlOk.fr0 okf f1 os
    have z1 := f1.size
    have hst : (List.replicate 1 (Value.agg (stV st00).toArray).cells.toList).flatten = [st00].flatMap stV := by
      show (stV st00 ++ []) = stV st00 ++ []
      rfl
    have hby : 1 * (Tryd.t58).bytes ≤ 2 ^ 48 := by decide +kernel
    unfold automaton_Build_b2
    -- the rest, from a memory that is ready
    have fin : ∀ {h4 : Heap} {a : Addr} {o4 : Tag} {pq : Option Addr} {pc : Nat}, Fr (fun _ => False) h h4 → Old h o o4 → (∀ x, h.size ≤ x → x < h4.size → k ≤ o4 x ∧ o4 x < k + 70000) → AutF o4 k h4 a [st00] pq s.xs.length pc → Row 2 ptV h4 pq pc s.xs → (∀ x, InA pq x → h.size ≤ x ∧ o4 x = k) →
        LoopV (fun (st : Int) h Kn => automaton_Build_l3 a s.p s.xs.length s.cap ((s.xs.length : Nat) : Int) Q st h Kn) 0 h4 := fun {h4 a o4 pq pc} f4 hO4 hr4 A4 R4 hq4 => by
      have z4 := f4.size
      have hno : ∀ x, x < h.size → ¬ AR o4 k x := fun x hx hh => by unfold AR at hh; rw [hO4 x hx] at hh; have := hold x hx; omega
      refine adds_c hl512 hps (fun h' f' => S h' (f4.tr f' fun x hx hh => hno x hx hh)) A4 fun o5 h5 sg ws hO5 hr5 f5 A5 T5 hm5 hl5 => ?_
      have z5 := f5.size
      refine hk a o5 h5 sg ws pq pc (fun x hx => by rw [hO5 x (by omega)]; exact hO4 x hx) (fun x hx hx5 => ?_) (f4.tr f5 fun x hx hh => hno x hx hh) A5 (R4.fr f5 fun x hx hh => by have := hq4 x hx; unfold AR at hh; omega) (fun x hx => ?_) T5 hm5 hl5 hl512 he
      · by_cases hx4 : x < h4.size
        · rw [hO5 x hx4]; exact hr4 x hx hx4
        · have := hr5 x (by omega) hx5; omega
      · have := hq4 x hx
        rw [hO5 x (R4.lt hx)]; exact this
    constructor
    · refine mkSl_mk el_st 1 rfl hby fun t28 h3 f3 e3 o3 => ⟨_, _, _, rfl, ?_⟩
      rw [hst] at o3
      have z3 := f3.size
      have l3 := o3.lt
      have Q3 := Row.of_own stV_len o3
      refine Clone_c s (SlOk.fr0 okf f3 os1) okf hl fun pq pc h4 f4 R4 hq4 => ⟨_, _, _, rfl, ?_⟩
      have z4 := f4.size
      refine al_mk (vs := [.slice (some t28) 1 1, .slice pq s.xs.length pc]) fun t32 h5 f5 e5 o5 => ?_
      have z5 := f5.size
      refine fin (o4 := upT (upT (upT (upT o h.size k) h1.size (k + 2)) h3.size k) h4.size (k + 1)) (((f1.trans f3).trans f4).trans f5) (fun x hx => by rw [upT_lt (by omega), upT_lt (by omega), upT_lt (by omega), upT_lt (by omega)]) (tag4 _ _ _ _ 0) ⟨⟨some t28, 1, o5, (Q3.fr0 f4).fr0 f5, fun x hx => ?_⟩, fun i hi => ?_, ?_⟩ (R4.fr0 f5) fun x hx => ?_
      · obtain ⟨ad, h1, h2⟩ := hx; cases h1
        rw [upT_lt (by omega), upT_lt (by omega), upT_ge (by omega)]
      · have : i = 0 := by simpa using hi
        subst this
        exact ⟨Row.nil, fun x hx => (notInA hx).elim⟩
      · rw [upT_ge (by omega)]
      · have h1 := hq4 x hx
        have h2 := R4.lt hx
        exact ⟨by omega, by rw [upT_lt h2, upT_ge (by omega)]⟩
    · refine Clone_c s os1 okf hl fun pq pc h3 f3 R3 hq3 => ⟨_, _, _, rfl, ?_⟩
      have z3 := f3.size
      refine mkSl_mk el_st 1 rfl hby fun t28 h4 f4 e4 o4 => ⟨_, _, _, rfl, ?_⟩
      rw [hst] at o4
      have z4 := f4.size
      have l4 := o4.lt
      have Q4 := Row.of_own stV_len o4
      refine al_mk (vs := [.slice (some t28) 1 1, .slice pq s.xs.length pc]) fun t32 h5 f5 e5 o5 => ?_
      have z5 := f5.size
      refine fin (o4 := upT (upT (upT (upT o h.size k) h1.size k) h3.size (k + 2)) h4.size (k + 1)) (((f1.trans f3).trans f4).trans f5) (fun x hx => by rw [upT_lt (by omega), upT_lt (by omega), upT_lt (by omega), upT_lt (by omega)]) (tag5 _ _ _ _ 0) ⟨⟨some t28, 1, o5, Q4.fr0 f5, fun x hx => ?_⟩, fun i hi => ?_, ?_⟩ ((R3.fr0 f4).fr0 f5) fun x hx => ?_
      · obtain ⟨ad, h1, h2⟩ := hx; cases h1
        rw [upT_lt (by omega), upT_ge (by omega)]
      · have : i = 0 := by simpa using hi
        subst this
        exact ⟨Row.nil, fun x hx => (notInA hx).elim⟩
      · rw [upT_ge (by omega)]
      · have h1 := hq3 x hx
        have h2 := R3.lt hx
        exact ⟨by omega, by rw [upT_lt (by omega), upT_lt h2, upT_ge (by omega)]⟩
end Go.Proofs.YthnheldoklgceaaDoor
