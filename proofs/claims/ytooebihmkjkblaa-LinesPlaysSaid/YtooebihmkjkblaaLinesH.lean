/-
  The examples of the chapter; what is gathered from feeds.
-/
import Derived.Test.YtooebihmkjkblaaLinesG
namespace Go.Proofs.Ytooebihmkjkblaa
set_option linter.unusedSimpArgs false
set_option linter.unusedVariables false
open Go
theorem Fr.hcell {h h' : Heap} (f : Fr (fun _ => False) h h') {a : Addr} {v : Value} (hc : Go.Proofs.Ytooebihmkjkblaa.hcell h a = some v) : Go.Proofs.Ytooebihmkjkblaa.hcell h' a = some v := by
  unfold Go.Proofs.Ytooebihmkjkblaa.hcell at hc ⊢
  cases hb : h[a.block]? with
  | none => rw [hb] at hc; simp at hc
  | some o => rw [f.get hb id]; rw [hb] at hc; exact hc
theorem Rd.fr {h h' : Heap} {r : Option Addr} {l : List (List UInt8 × Bool)} (hr : Rd h r l) (f : Fr (fun _ => False) h h') : Rd h' r l := by
  cases r with
  | none => exact hr
  | some ad => exact ⟨hr.1, fun j hj => f.hcell (hr.2 j hj)⟩
theorem awake_c [Gh] {h : Heap} {Q : Value → Heap → Prop} (hk : ∀ h', Fr (fun _ => False) h h' → Q (.bool true) h') : CallT Try.prog fn_law25_awake #[] h Q := by
  refine law25_awake_s ?_
  simp only [law25_awake_b4, law25_awake_b5, law25_awake_b3, law25_awake_b2, law25_awake_b1, law25_awake_v]
  have em : (clampI 2).toNat = 2 := rfl
  have ef : feedL 2 [] [97, 98, 99, 13] = ([], [97, 98, 99, 13]) := rfl
  refine NewS_c 2 fun h1 s1 f1 hz => ⟨_, rfl, ?_⟩
  rw [if_neg (by simp)]
  rw [em] at s1
  refine Feed_c s1 [97, 98, 99, 13] (by simp) fun h2 a2 r2 c2 s2 f2 ha2 ho2 hc2 hr2 => ⟨_, _, _, rfl, ?_⟩
  rw [ef] at s2
  rw [if_neg (by rw [ef]; decide)]
  refine Rest_c s2 ⟨_, rfl, ?_⟩
  rw [if_neg (by
    show ¬ (!((bs (lineL 2 (bareL [97, 98, 99, 13])).1).toList == (bs [97, 98]).toList)) = true
    rw [bs_toList, bs_toList]; decide)]
  refine Take_c s2 fun h3 s3 f3 => ⟨_, rfl, ?_⟩
  rw [if_neg (by
    show ¬ (!((bs (([97, 98, 99, 13] : List UInt8).take (2 + 1))).toList == (bs [97, 98, 99]).toList)) = true
    rw [bs_toList, bs_toList]; decide)]
  have f02 : Fr (fun _ => False) h h2 := f1.tr f2 fun x hx hx2 => by
    rcases hx2 with rfl | hx2
    · omega
    · obtain ⟨_, h, _⟩ := hx2; cases h
  have f03 : Fr (fun _ => False) h h3 := f02.tr f3 fun x hx hx2 => by omega
  refine Split_c 3 [97, 98, 13, 13, 10, 10, 97, 98, 99, 100] (by simp) fun h4 r4 c4 f4 ho4 hc4 hr4 => ⟨_, _, _, rfl, ?_⟩
  have hp : Rd (h4.push (.cells (linesV [([97, 98, 13], false), ([], false), ([97, 98, 99], true)]).toArray 38 (0, 0))) (some ⟨h4.size, 0, none⟩) [([97, 98, 13], false), ([], false), ([97, 98, 99], true)] := by
    refine ⟨rfl, fun j hj => ?_⟩
    rw [add_mk, hcell_blk get_push_self, Nat.zero_add, List.getElem?_toArray, List.getElem?_eq_getElem hj]
  have fp := Fr.push (fun _ => False) h4 (.cells (linesV [([97, 98, 13], false), ([], false), ([97, 98, 99], true)]).toArray 38 (0, 0))
  refine Same_c (ho4.rd.fr fp) hp (by decide) ⟨_, rfl, ?_⟩
  have e : decide (splitL (clampI 3).toNat [97, 98, 13, 13, 10, 10, 97, 98, 99, 100] = [([97, 98, 13], false), ([], false), ([97, 98, 99], true)]) = true := by decide
  rw [e]
  exact hk _ ((f03.trans f4).trans fp)
/-- What the feeds so far gave, and the splitter. -/
structure Acc (h0 h : Heap) (b : Nat) (a : Option Addr) (mx : Nat) (B : List UInt8) (ga : Option Addr) (gc : Nat) (out : List (List UInt8 × Bool)) : Prop where
  s : SplS h b a mx B
  o : OwnC h ga gc 2 (linesV out)
  c : out.length ≤ gc
  fr : Fr (fun _ => False) h0 h
  nb : h0.size ≤ b
  na : ∀ x, InA a x → h0.size ≤ x
  ng : ∀ x, InA ga x → h0.size ≤ x ∧ x ≠ b ∧ ¬ InA a x
theorem acc_feed [Gh] {h0 h : Heap} {b : Nat} {a : Option Addr} {mx : Nat} {B : List UInt8} {ga : Option Addr} {gc : Nat} {out : List (List UInt8 × Bool)} (A : Acc h0 h b a mx B ga gc out)
    (l : List UInt8) (hsm : B.length + l.length < 2 ^ 30) (hso : out.length < 2 ^ 30) {Q : Option Addr → Nat → Nat → Heap → Prop}
    (hk : ∀ h' a' ga' gc', Acc h0 h' b a' mx (feedL mx B l).2 ga' gc' (out ++ (feedL mx B l).1) → Q ga' (out ++ (feedL mx B l).1).length gc' h') :
    CallT Try.prog fn_lines_Splitter_Feed #[.pointer (some ⟨b, 0, none⟩), .string (bs l)] h fun v h3 => ∃ t50a : Option Addr, ∃ t50n : Nat, ∃ t50c : Nat, v = Value.slice t50a t50n t50c ∧
      bltV Try.prog .append #[31, 31] 31 #[false, false] #[Value.slice ga out.length gc, Value.slice t50a t50n t50c] h3 fun v h4 => ∃ t51a : Option Addr, ∃ t51n : Nat, ∃ t51c : Nat, v = Value.slice t51a t51n t51c ∧ Q t51a t51n t51c h4 := by
  obtain ⟨s, o, c, fr, nb, na, ng⟩ := A
  have z0 := fr.size
  have l1 := feedL_len mx l B
  refine Feed_c s l (by omega) fun h2 a2 r2 c2 s2 f2 ha2 ho2 hc2 hr2 => ⟨_, _, _, rfl, ?_⟩
  have og2 : OwnC h2 ga gc 2 (linesV out) := o.fr f2 fun x hx hx2 => by
    rcases hx2 with rfl | hx2
    · exact (ng _ hx).2.1 rfl
    · exact (ng _ hx).2.2 hx2
  refine append_own t31 (xT := 31) (d := .slice 38) rfl (by simp) og2 (linesV_len _) c (src_of ho2) (linesV_cellV _) ?_ ?_
  · show _ * 24 ≤ _
    omega
  · intro r4 c4 h4 hown4 hc4 f4 hn4
    refine ⟨_, _, _, rfl, ?_⟩
    have := hk h4 a2 r4 c4 ⟨s2.fr f4 fun x hx hx2 => ?_, by rw [linesV_append]; exact hown4, by rw [List.length_append]; exact hc4, (fr.tr f2 fun x hx hx2 => ?_).tr f4 fun x hx hx2 => ?_, nb, fun x hx => ?_, fun x hx => ?_⟩
    · rw [List.length_append] at this; exact this
    · rcases hx with rfl | hx
      · exact (ng _ hx2).2.1 rfl
      · rcases ha2 x hx with hx | hx
        · exact (ng _ hx2).2.2 hx
        · have := o.lt hx2; omega
    · rcases hx2 with rfl | hx2
      · omega
      · have := na x hx2; omega
    · have := (ng x hx2).1; omega
    · rcases ha2 x hx with hx | hx
      · exact na x hx
      · omega
    · rcases hn4 x hx with hx | hx
      · refine ⟨(ng x hx).1, (ng x hx).2.1, fun hx2 => ?_⟩
        rcases ha2 x hx2 with hx2 | hx2
        · exact (ng x hx).2.2 hx2
        · have := o.lt hx; omega
      · have z2 := f2.size
        refine ⟨by omega, ?_, fun hx2 => ?_⟩
        · have := s2.lt (.inl rfl); omega
        · have := s2.lt (.inr hx2); omega
theorem acc_close [Gh] {h0 h : Heap} {b : Nat} {a : Option Addr} {mx : Nat} {B : List UInt8} {ga : Option Addr} {gc : Nat} {out : List (List UInt8 × Bool)} (A : Acc h0 h b a mx B ga gc out)
    (hso : out.length < 2 ^ 30) {Q : Option Addr → Nat → Nat → Heap → Prop}
    (hk : ∀ h' ga' gc', OwnC h' ga' gc' 2 (linesV (out ++ closeL mx B)) → Fr (fun _ => False) h0 h' → Q ga' (out ++ closeL mx B).length gc' h') :
    CallT Try.prog fn_lines_Splitter_Close #[.pointer (some ⟨b, 0, none⟩)] h fun v h3 => ∃ t50a : Option Addr, ∃ t50n : Nat, ∃ t50c : Nat, v = Value.slice t50a t50n t50c ∧
      bltV Try.prog .append #[31, 31] 31 #[false, false] #[Value.slice ga out.length gc, Value.slice t50a t50n t50c] h3 fun v h4 => ∃ t51a : Option Addr, ∃ t51n : Nat, ∃ t51c : Nat, v = Value.slice t51a t51n t51c ∧ Q t51a t51n t51c h4 := by
  obtain ⟨s, o, c, fr, nb, na, ng⟩ := A
  have z0 := fr.size
  have l1 := closeL_len mx B
  refine Close_c s fun h2 r2 c2 s2 f2 ho2 hc2 hr2 => ⟨_, _, _, rfl, ?_⟩
  have og2 : OwnC h2 ga gc 2 (linesV out) := o.fr f2 fun x hx hx2 => (ng _ hx).2.1 hx2
  refine append_own t31 (xT := 31) (d := .slice 38) rfl (by simp) og2 (linesV_len _) c (src_of ho2) (linesV_cellV _) ?_ ?_
  · show _ * 24 ≤ _
    omega
  · intro r4 c4 h4 hown4 hc4 f4 hn4
    refine ⟨_, _, _, rfl, ?_⟩
    have := hk h4 r4 c4 (by rw [linesV_append]; exact hown4) ((fr.tr f2 fun x hx hx2 => by omega).tr f4 fun x hx hx2 => by have := (ng x hx2).1; omega)
    rw [List.length_append] at this; exact this
end Go.Proofs.Ytooebihmkjkblaa
