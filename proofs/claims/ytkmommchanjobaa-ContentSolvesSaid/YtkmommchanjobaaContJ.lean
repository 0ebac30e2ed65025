/-
  What the statements let in; ContentTests and ContentPlaces.
-/
import Derived.Test.YtkmommchanjobaaContI
namespace Go.Proofs.Ytkmommchanjobaa
set_option linter.unusedSimpArgs false
set_option linter.unusedVariables false
open Go
theorem within_c [Gh] (n : Int) {h : Heap} {Q : Value → Heap → Prop} (hk : Q (.bool (decide (-1073741824 ≤ n ∧ n ≤ 1073741824))) h) : CallT Try.prog fn_law44_within #[.int .i64 n] h Q := by
  refine law44_within_s _ ?_
  simp only [law44_within_b2, law44_within_b1, law44_within_v]
  by_cases h1 : n ≥ -1073741824
  · rw [if_pos (by simpa using h1)]
    have : decide (-1073741824 ≤ n ∧ n ≤ 1073741824) = decide (n ≤ 1073741824) := by rw [decide_eq_decide]; omega
    rw [this] at hk; exact hk
  · rw [if_neg (by simpa using h1)]
    have : decide (-1073741824 ≤ n ∧ n ≤ 1073741824) = false := by rw [decide_eq_false_iff_not]; omega
    rw [this] at hk; exact hk
structure Snd (cs : List Cn) (ts : List Ts) (d : List UInt8) : Prop where
  c : cs.length ≤ 6
  t : ts.length ≤ 6
  d : d.length ≤ 120
  okc : ∀ c ∈ cs, OkC c
  okt : ∀ t ∈ ts, OkT t
theorem sound_c [Gh] {cs : List Cn} {ts : List Ts} {d : List UInt8} {La Ta : Option Addr} {lc tc : Nat} {h : Heap} (rc : RdC (fun _ => False) h La cs) (rt : RdT (fun _ => False) h Ta ts) {Q : Value → Heap → Prop}
    (hk : ∀ r : Bool, (r = true → Snd cs ts d) → Q (.bool r) h) :
    CallT Try.prog fn_law44_sound #[.slice La cs.length lc, .slice Ta ts.length tc, .string (bs d)] h Q := by
  refine law44_sound_s _ _ _ _ _ _ _ ?_
  simp only [law44_sound_b3, law44_sound_b20, law44_sound_b13, law44_sound_b12, law44_sound_b5, law44_sound_b4, law44_sound_b2, law44_sound_b1, law44_sound_v]
  by_cases h1 : cs.length > 6
  · rw [if_pos (by rw [decide_eq_true_eq]; omega)]; exact hk false (by simp)
  rw [if_neg (by rw [decide_eq_true_eq]; omega)]
  by_cases h2 : ts.length > 6
  · rw [if_pos (by rw [decide_eq_true_eq]; omega)]; exact hk false (by simp)
  rw [if_neg (by rw [decide_eq_true_eq]; omega)]
  by_cases h3 : d.length > 120
  · rw [if_pos (by rw [bs_size, decide_eq_true_eq]; omega)]; exact hk false (by simp)
  rw [if_neg (by rw [bs_size, decide_eq_true_eq]; omega)]
  refine LoopV.mk (fun i h' => h' = h ∧ ∃ k : Nat, i = k ∧ k ≤ cs.length ∧ ∀ j (hj : j < cs.length), j < k → OkC cs[j]) (fun i _ => cs.length - i.toNat) ⟨rfl, 0, rfl, by omega, fun j _ hj => by omega⟩ ?_
  rintro i h' ⟨rfl, k, rfl, hkl, hpre⟩
  simp only [law44_sound_b10, law44_sound_b11, law44_sound_b9, law44_sound_b8, law44_sound_b7, law44_sound_l6, law44_sound_b12]
  by_cases hk' : k < cs.length
  · rw [if_pos (by rw [decide_eq_true_eq]; omega)]
    obtain ⟨ad, rfl, _, r⟩ := rc k hk'
    simp only [nn, Int.toNat_natCast]
    refine ⟨by omega, by omega, ldS_mk r.c0 ?_⟩
    by_cases q1 : cs[k].pat.length > 20
    · rw [if_pos (by rw [bs_size, decide_eq_true_eq]; omega)]; exact hk false (by simp)
    rw [if_neg (by rw [bs_size, decide_eq_true_eq]; omega)]
    refine ⟨by omega, by omega, ldI_mk r.c4 ?_⟩
    refine within_c _ ⟨_, rfl, ?_⟩
    by_cases q2 : ¬ (-1073741824 ≤ cs[k].off ∧ cs[k].off ≤ 1073741824)
    · rw [if_pos (by rw [Bool.not_eq_true', decide_eq_false_iff_not]; exact q2)]; exact hk false (by simp)
    have q2 := Classical.not_not.1 q2
    rw [if_neg (by simpa using q2)]
    refine ⟨by omega, by omega, ldI_mk r.c5 ?_⟩
    refine within_c _ ⟨_, rfl, ?_⟩
    by_cases q3 : ¬ (-1073741824 ≤ cs[k].dep ∧ cs[k].dep ≤ 1073741824)
    · rw [if_pos (by rw [Bool.not_eq_true', decide_eq_false_iff_not]; exact q3)]; exact hk false (by simp)
    have q3 := Classical.not_not.1 q3
    rw [if_neg (by simpa using q3)]
    refine ⟨by omega, by omega, ldI_mk r.c5 ?_⟩
    by_cases q4 : cs[k].dep < 0
    · rw [if_pos (by simpa using q4)]; exact hk false (by simp)
    rw [if_neg (by simpa using q4), wr (by omega) (by omega)]
    refine ⟨⟨rfl, k + 1, by omega, by omega, fun j hj hjk => ?_⟩, by omega⟩
    by_cases hjk' : j = k
    · subst hjk'; exact ⟨by omega, q2.1, q2.2, by omega, q3.2⟩
    · exact hpre j hj (by omega)
  · rw [if_neg (by rw [decide_eq_true_eq]; omega)]
    have okc : ∀ c ∈ cs, OkC c := fun c hc => by
      obtain ⟨j, hj, rfl⟩ := List.mem_iff_getElem.1 hc
      exact hpre j hj (by omega)
    simp only [law44_sound_b13]
    refine LoopV.mk (fun i h'' => h'' = h' ∧ ∃ k : Nat, i = k ∧ k ≤ ts.length ∧ ∀ j (hj : j < ts.length), j < k → OkT ts[j]) (fun i _ => ts.length - i.toNat) ⟨rfl, 0, rfl, by omega, fun j _ hj => by omega⟩ ?_
    rintro i h'' ⟨rfl, m, rfl, hml, hprm⟩
    simp only [law44_sound_b18, law44_sound_b19, law44_sound_b17, law44_sound_b16, law44_sound_b15, law44_sound_l14]
    by_cases hm : m < ts.length
    · rw [if_pos (by rw [decide_eq_true_eq]; omega)]
      obtain ⟨ad, rfl, _, r⟩ := rt m hm
      simp only [nn, Int.toNat_natCast]
      refine ⟨by omega, by omega, ldI_mk r.c3 ?_⟩
      refine within_c _ ⟨_, rfl, ?_⟩
      by_cases q2 : ¬ (-1073741824 ≤ ts[m].off ∧ ts[m].off ≤ 1073741824)
      · rw [if_pos (by rw [Bool.not_eq_true', decide_eq_false_iff_not]; exact q2)]; exact hk false (by simp)
      have q2 := Classical.not_not.1 q2
      rw [if_neg (by simpa using q2)]
      refine ⟨by omega, by omega, ldI_mk r.c2 ?_⟩
      by_cases q4 : ts[m].val < 0
      · rw [if_pos (by simpa using q4)]; exact hk false (by simp)
      rw [if_neg (by simpa using q4), wr (by omega) (by omega)]
      refine ⟨⟨rfl, m + 1, by omega, by omega, fun j hj hjk => ?_⟩, by omega⟩
      by_cases hjk' : j = m
      · subst hjk'; exact q2
      · exact hprm j hj (by omega)
    · rw [if_neg (by rw [decide_eq_true_eq]; omega)]
      refine hk true fun _ => ⟨by omega, by omega, by omega, okc, fun c hc => ?_⟩
      obtain ⟨j, hj, rfl⟩ := List.mem_iff_getElem.1 hc
      exact hprm j hj (by omega)
theorem alV_mk {h : Heap} {o : Obj} {K : Addr → Heap → Prop} (hk : K ⟨h.size, 0, none⟩ (h.push o)) : alV h o K := hk
theorem ContentTests_c [Gh] (t : Ts) (d : List UInt8) (cur : Int) {h : Heap} {Q : Value → Heap → Prop} (hk : ∀ h', Fr (fun _ => False) h h' → Q (.bool true) h') :
    CallT Try.prog fn_law44_ContentTests #[.agg (tsV t).toArray, .string (bs d), .int .i64 cur] h Q := by
  obtain ⟨op, size, val, off, rel, little, neg⟩ := t
  refine law44_ContentTests_s op size val off rel little neg (bs d) cur ?_
  simp only [law44_ContentTests_b3, law44_ContentTests_b4, law44_ContentTests_b2, law44_ContentTests_b1, law44_ContentTests_v]
  refine alV_mk (o := .cells (tsV ⟨op, size, val, off, rel, little, neg⟩).toArray 34) ?_
  have fp := Fr.push (fun _ => False) h (.cells (tsV ⟨op, size, val, off, rel, little, neg⟩).toArray 34 (0, 0))
  have r : TsAt (h.push (.cells (tsV ⟨op, size, val, off, rel, little, neg⟩).toArray 34 (0, 0))) ⟨h.size, 0, none⟩ ⟨op, size, val, off, rel, little, neg⟩ := by
    constructor <;> (try rw [add_mk]) <;> rw [hcell_blk get_push_self] <;> rfl
  generalize h.push (.cells (tsV ⟨op, size, val, off, rel, little, neg⟩).toArray 34 (0, 0)) = h1 at *
  generalize Addr.mk h.size 0 none = b at *
  refine ldI_mk r.c0 (ldI_mk r.c1 (ldI_mk r.c2 (ldI_mk r.c3 (ldB_mk r.c4 (ldB_mk r.c5 (ldB_mk r.c6 ?_))))))
  refine alV_mk (o := .cells (tsV ⟨op, size, val, off, rel, little, neg⟩).toArray 34) ?_
  have f2 := Fr.push (fun _ => False) h1 (.cells (tsV ⟨op, size, val, off, rel, little, neg⟩).toArray 34 (0, 0))
  have rt : RdT (fun _ => False) (h1.push (.cells (tsV ⟨op, size, val, off, rel, little, neg⟩).toArray 34 (0, 0))) (some ⟨h1.size, 0, none⟩) [⟨op, size, val, off, rel, little, neg⟩] := by
    intro i hi
    have : i = 0 := by simpa using hi
    subst this
    refine ⟨_, rfl, id, ?_⟩
    constructor <;> rw [add_mk] <;> (try rw [add_mk]) <;> rw [hcell_blk get_push_self] <;> rfl
  have r2 := r.fr f2 id
  generalize h1.push (.cells (tsV ⟨op, size, val, off, rel, little, neg⟩).toArray 34 (0, 0)) = h2 at *
  have wake : ∀ h', Fr (fun _ => False) h2 h' → CallT Try.prog fn_law44_awake #[] h' fun v h2 => ∃ t : Bool, v = Value.bool t ∧ Q (Value.bool t) h2 :=
    fun h' f => awake_c fun h3 f3 => ⟨_, rfl, hk _ (((fp.trans f2).trans f).trans f3)⟩
  refine sound_c (cs := []) (La := none) rdC_nil rt fun res hres => ⟨_, rfl, ?_⟩
  cases res with
  | false => rw [if_pos (by rfl)]; exact wake _ (Fr.refl _ _)
  | true =>
    rw [if_neg (by simp)]
    have S := hres rfl
    refine within_c _ ⟨_, rfl, ?_⟩
    by_cases q2 : ¬ (-1073741824 ≤ cur ∧ cur ≤ 1073741824)
    · rw [if_pos (by rw [Bool.not_eq_true', decide_eq_false_iff_not]; exact q2)]; exact wake _ (Fr.refl _ _)
    have q2 := Classical.not_not.1 q2
    rw [if_neg (by simpa using q2)]
    by_cases q3 : cur < 0
    · rw [if_pos (by simpa using q3)]; exact wake _ (Fr.refl _ _)
    rw [if_neg (by simpa using q3)]
    have hd := S.d
    have hot : OkT ⟨op, size, val, off, rel, little, neg⟩ := S.okt _ (by simp)
    refine ldI_mk r2.c0 (ldI_mk r2.c1 (ldI_mk r2.c2 (ldI_mk r2.c3 (ldB_mk r2.c4 (ldB_mk r2.c5 (ldB_mk r2.c6 ?_))))))
    refine ldI_mk r2.c0 (ldI_mk r2.c1 (ldI_mk r2.c2 (ldI_mk r2.c3 (ldB_mk r2.c4 (ldB_mk r2.c5 (ldB_mk r2.c6 ?_))))))
    refine Test_c ⟨op, size, val, off, rel, little, neg⟩ d cur hot ⟨by omega, by omega⟩ (by omega) fun h3 f3 => ⟨_, rfl, ?_⟩
    have r3 := r2.fr f3 id
    refine ⟨ldI_mk r3.c0 (ldI_mk r3.c1 (ldI_mk r3.c2 (ldI_mk r3.c3 (ldB_mk r3.c4 (ldB_mk r3.c5 (ldB_mk r3.c6 rfl)))))), ?_⟩
    refine rTest_c ⟨op, size, val, off, rel, little, neg⟩ d cur hot ⟨by omega, by omega⟩ (by omega) fun h4 f4 => ⟨_, rfl, ?_⟩
    rw [if_pos (by simp)]
    exact wake _ (f3.trans f4)
end Go.Proofs.Ytkmommchanjobaa
