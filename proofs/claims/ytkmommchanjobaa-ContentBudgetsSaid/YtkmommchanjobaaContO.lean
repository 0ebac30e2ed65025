/-
  The law ContentBudgets.
-/
import Derived.Test.YtkmommchanjobaaContN
namespace Go.Proofs.Ytkmommchanjobaa
set_option linter.unusedSimpArgs false
set_option linter.unusedVariables false
open Go
theorem ContentBudgets_c [Gh] {La Ta : Option Addr} {lc tc : Nat} {cs : List Cn} {ts : List Ts} (d : List UInt8) (bud less more : Int) (hle : 0 ≤ less ∧ less ≤ 65535) (hmo : 0 ≤ more ∧ more ≤ 65535) {h : Heap} (rc : RdC (fun _ => False) h La cs) (rt : RdT (fun _ => False) h Ta ts) {Q : Value → Heap → Prop} (hk : ∀ h', Fr (fun _ => False) h h' → Q (.bool true) h') :
    CallT Try.prog fn_law44_ContentBudgets #[.agg (caseV La cs.length lc Ta ts.length tc d bud).toArray, .int .u16 less, .int .u16 more] h Q := by
  refine law44_ContentBudgets_s La cs.length lc Ta ts.length tc (bs d) bud less more ?_
  simp only [law44_ContentBudgets_b3, law44_ContentBudgets_b6, law44_ContentBudgets_b9, law44_ContentBudgets_b12, law44_ContentBudgets_b15, law44_ContentBudgets_b18, law44_ContentBudgets_b17, law44_ContentBudgets_b16, law44_ContentBudgets_b14, law44_ContentBudgets_b13, law44_ContentBudgets_b11, law44_ContentBudgets_b10, law44_ContentBudgets_b8, law44_ContentBudgets_b7, law44_ContentBudgets_b5, law44_ContentBudgets_b4, law44_ContentBudgets_b2, law44_ContentBudgets_b1, law44_ContentBudgets_v]
  refine alV_mk ?_
  have fp := Fr.push (fun _ => False) h (.cells #[.slice La cs.length lc, .slice Ta ts.length tc, .string (bs d), .int .i64 bud] 38 (0, 0))
  have hb : (h.push (.cells #[.slice La cs.length lc, .slice Ta ts.length tc, .string (bs d), .int .i64 bud] 38 (0, 0)))[h.size]? = some (.cells #[.slice La cs.length lc, .slice Ta ts.length tc, .string (bs d), .int .i64 bud] 38 (0, 0)) := get_push_self
  have rc1 := rc.fr fp fun _ h => h
  have rt1 := rt.fr fp fun _ h => h
  generalize h.push (.cells #[.slice La cs.length lc, .slice Ta ts.length tc, .string (bs d), .int .i64 bud] 38 (0, 0)) = h1 at *
  have wake : ∀ h', Fr (fun _ => False) h1 h' → CallT Try.prog fn_law44_awake #[] h' fun v h2 => ∃ t : Bool, v = Value.bool t ∧ Q (Value.bool t) h2 :=
    fun h' f => awake_c fun h3 f3 => ⟨_, rfl, hk _ ((fp.trans f).trans f3)⟩
  refine ldL_mk (p := La) (n := cs.length) (c := lc) (by rw [hcell_blk hb]; rfl) ?_
  refine ldL_mk (p := Ta) (n := ts.length) (c := tc) (by rw [add_mk, hcell_blk hb]; rfl) ?_
  refine ldS_mk (by rw [add_mk, hcell_blk hb]; rfl) ?_
  refine sound_c rc1 rt1 fun res hres => ⟨_, rfl, ?_⟩
  cases res with
  | false => rw [if_pos (by rfl)]; exact wake _ (Fr.refl _ _)
  | true =>
    rw [if_neg (by simp)]
    have S := hres rfl
    have h6c := S.c
    have h6t := S.t
    have h6d := S.d
    refine ldL_mk (p := La) (n := cs.length) (c := lc) (by rw [hcell_blk hb]; rfl) ?_
    refine ldL_mk (p := Ta) (n := ts.length) (c := tc) (by rw [add_mk, hcell_blk hb]; rfl) ?_
    refine ldS_mk (by rw [add_mk, hcell_blk hb]; rfl) ?_
    refine Match_c (by omega) (by omega) (by omega) S.okc S.okt 20000 (by omega) rc1 rt1 fun h2 f2 => ⟨_, _, _, _, matchV_eq _ _, ?_⟩
    have hb2 := f2.get hb id
    have e20 : stepsL 20000 = 20000 := rfl
    rw [e20]
    have hmono := solve_mono d ts cs 0 20000
    generalize hr0 : solve d ts cs 0 20000 = r0 at *
    obtain ⟨e, l, o⟩ := r0
    cases o with
    | true =>
      rw [if_pos (by simp [mE])]
      rw [if_pos (by simp [mE]), if_pos (by simp [mOk]), if_pos (by simp [mEnd]), if_pos (by simp [mN])]
      exact wake _ f2
    | false =>
      obtain ⟨m1, m2, m3⟩ := hmono e l rfl
      rw [if_neg (by simp [mE])]
      have en : mN (e, l, false) 20000 = ((20000 - l : Nat) : Int) := by simp [mN]
      rw [en]
      generalize hn : 20000 - l = n at *
      rw [if_neg (by rw [decide_eq_true_eq]; omega), if_neg (by rw [decide_eq_true_eq]; omega)]
      refine ldL_mk (p := La) (n := cs.length) (c := lc) (by rw [hcell_blk hb2]; rfl) ?_
      refine ldL_mk (p := Ta) (n := ts.length) (c := tc) (by rw [add_mk, hcell_blk hb2]; rfl) ?_
      refine ldS_mk (by rw [add_mk, hcell_blk hb2]; rfl) ?_
      rw [wr (x := more) (by omega) (by omega), wr (x := (n : Int) + more) (by omega) (by omega)]
      refine Match_c (by omega) (by omega) (by omega) S.okc S.okt ((n : Int) + more) (by omega) (rc1.fr f2 fun _ h => h) (rt1.fr f2 fun _ h => h) fun h3 f3 => ⟨_, _, _, _, matchV_eq _ _, ?_⟩
      have hb3 := f3.get hb2 id
      have es : stepsL ((n : Int) + more) = n + more.toNat := by unfold stepsL; omega
      rw [es, m2 (n + more.toNat) (by omega)]
      rw [if_neg (by simp [mOk]), if_neg (by simp [mEnd]), if_neg (by simp [mN]), if_neg (by simp [mE])]
      by_cases hn0 : n = 0
      · rw [if_pos (by simp [hn0])]
        exact wake _ (f2.trans f3)
      rw [if_neg (by simpa using hn0)]
      refine ⟨by omega, ?_⟩
      rw [wr (x := less) (by omega) (by omega)]
      have et : Int.tmod less n = ((less.toNat % n : Nat) : Int) := by
        rw [Int.tmod_eq_emod_of_nonneg hle.1]
        obtain ⟨m, rfl⟩ : ∃ m : Nat, less = m := ⟨less.toNat, by omega⟩
        rw [Int.toNat_natCast]; rfl
      rw [et]
      have hlt : less.toNat % n < n := Nat.mod_lt _ (by omega)
      generalize less.toNat % n = bb at *
      refine ldL_mk (p := La) (n := cs.length) (c := lc) (by rw [hcell_blk hb3]; rfl) ?_
      refine ldL_mk (p := Ta) (n := ts.length) (c := tc) (by rw [add_mk, hcell_blk hb3]; rfl) ?_
      refine ldS_mk (by rw [add_mk, hcell_blk hb3]; rfl) ?_
      refine Match_c (by omega) (by omega) (by omega) S.okc S.okt (bb : Int) (by omega) (rc1.fr (f2.trans f3) fun _ h => h) (rt1.fr (f2.trans f3) fun _ h => h) fun h4 f4 => ⟨_, _, _, _, matchV_eq _ _, ?_⟩
      have eb : stepsL (bb : Int) = bb := by unfold stepsL; omega
      rw [eb]
      have hov := m3 bb hlt
      generalize solve d ts cs 0 bb = r2 at *
      obtain ⟨e2, l2, o2⟩ := r2
      simp only at hov
      subst hov
      rw [if_pos (by simp [mOk]), if_pos (by simp [mEnd]), if_pos (by simp [mN]), if_pos (by simp [mE])]
      exact wake _ ((f2.trans f3).trans f4)
end Go.Proofs.Ytkmommchanjobaa
