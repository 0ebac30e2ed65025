/-
  The program's step on a byte of a line.
-/
import Derived.Test.YtjhcockaojlfiaaDoorChunkA
namespace Go.Proofs.YtjhcockaojlfiaaDoor
set_option linter.unusedSimpArgs false
set_option linter.unusedVariables false
set_option maxRecDepth 20000
open Go
open Go.IntKind (wrap)
theorem stepl_c [Gh] {h : Heap} {a : Addr} {d : Dec} (o : OwnD h a d) (ok : d.len ≤ 128) {Q : Value → Heap → Prop}
    (hk : ∀ h', Fr (fun b => b = a.block) h h' → h'.size = h.size → OwnD h' a (cnt d).2 → Q (.int .i64 (cnt d).1) h') : LoopV (fun (_ : Unit) h Kn => chunked_Decoder_step_l1 (some a) Q h Kn) () h := by
  refine LoopV.mk (fun _ h' => h' = h) (fun _ _ => 0) rfl ?_
  rintro _ _ rfl
  unfold chunked_Decoder_step_l1
  exact count_c o ok fun h' f s o' => ⟨_, rfl, hk h' f s o'⟩
theorem stepC_c [Gh] {h : Heap} {a : Addr} {d : Dec} (o : OwnD h a d) (ok : d.len ≤ 128) (ok2 : d.sz < 2 ^ 28) (x : UInt8) {b : Bool} (hb : b = true ↔ d.st = 0 ∨ d.st = 3) {Q : Value → Heap → Prop}
    (hk : ∀ h', Fr (fun b => b = a.block) h h' → h'.size = h.size → OwnD h' a (stepC d x.toNat).2 → Q (.int .i64 (stepC d x.toNat).1) h') : chunked_Decoder_step_b3 (some a) x.toNat b Q h := by
  unfold chunked_Decoder_step_b3
  unfold stepC at hk
  have ne59 : ∀ n : Nat, hexN x.toNat = some n → x.toNat ≠ 59 := fun n e h => by rw [h, hexN_59] at e; cases e
  have b5 : ∀ r : Nat × Dec, r = (if d.st = 3 ∨ x.toNat ≠ 59 ∨ d.len = 0 then (2, d) else cnt { d with st := 1 }) →
      (∀ h', Fr (fun b => b = a.block) h h' → h'.size = h.size → OwnD h' a r.2 → Q (.int .i64 r.1) h') → chunked_Decoder_step_b5 (some a) x.toNat Q h := by
    intro r hr hk
    unfold chunked_Decoder_step_b5
    refine nn_mk (ldI_mk (o.cells.at0 rfl) ?_)
    refine ifE (fun (e : (d.st : Int) = 3) => ?_) fun (e : (d.st : Int) ≠ 3) => ?_
    · rw [if_pos (by omega)] at hr; subst hr; exact hk h (Fr.refl _ _) rfl o
    refine ifNe (fun e2 => ?_) fun e2 => ?_
    · rw [if_pos (by omega)] at hr; subst hr; exact hk h (Fr.refl _ _) rfl o
    refine nn_mk (ldI_mk (o.cells.at rfl) ?_)
    refine ifE (fun (e3 : (d.len : Int) = 0) => ?_) fun (e3 : (d.len : Int) ≠ 0) => ?_
    · rw [if_pos (by omega)] at hr; subst hr; exact hk h (Fr.refl _ _) rfl o
    rw [if_neg (by omega)] at hr
    subst hr
    refine nn_mk (st1_own0 o (by simp [Dec.vals]) rfl fun h1 f1 s1 o1 => ?_)
    have o1 : OwnD h1 a { d with st := 1 } := o1
    exact stepl_c o1 ok fun h2 f2 s2 o2 => hk h2 (f1.trans f2) (by omega) o2
  refine ifE (fun e => ?_) fun e => ?_
  · rw [if_pos (by omega)] at hk
    have set : (¬ (d.st = 0 ∧ d.len = 0)) → ∀ K : Value → Heap → Prop, K = Q → nn (some a) fun t52 => st1 h (Addr.add t52 3) (.bool true) fun h4 => K (.int .i64 0) h4 := by
      rintro hn _ rfl
      rw [if_neg hn] at hk
      exact nn_mk (st1_own o 3 (by simp [Dec.vals]) rfl fun h1 f1 s1 o1 => hk _ f1 s1 o1)
    refine nn_mk (ldI_mk (o.cells.at0 rfl) ?_)
    refine ifE (fun (e : (d.st : Int) = 0) => ?_) fun (e : (d.st : Int) ≠ 0) => set (by omega) _ rfl
    refine nn_mk (ldI_mk (o.cells.at rfl) ?_)
    refine ifE (fun (e3 : (d.len : Int) = 0) => ?_) fun (e3 : (d.len : Int) ≠ 0) => set (by omega) _ rfl
    rw [if_pos (by omega)] at hk
    exact hk _ (Fr.refl _ _) rfl o
  rw [if_neg (by omega)] at hk
  refine ifN (fun e2 => ?_) fun e2 => ?_
  · have e2 : ¬ (d.st = 0 ∨ d.st = 3) := fun h => by rw [hb.2 h] at e2; cases e2
    rw [if_pos e2] at hk
    exact stepl_c o ok fun h2 f2 s2 o2 => hk h2 f2 s2 o2
  have e2 := hb.1 e2
  rw [if_neg (not_not_intro e2)] at hk
  refine hex_c x ⟨_, rfl, nn_mk (ldI_mk (o.cells.at0 rfl) ?_)⟩
  cases hx : hexN x.toNat with
  | none =>
    rw [hx] at hk
    have b5 := b5 _ rfl fun h' f s o' => hk h' f s o'
    have he : hexI x.toNat = -1 := by unfold hexI; rw [hx]
    rw [he]
    refine ifE (fun _ => ?_) fun _ => b5
    rw [if_neg (by decide)]; exact b5
  | some n =>
    rw [hx] at hk
    have hn := hexN_lt hx
    have he : hexI x.toNat = n := by unfold hexI; rw [hx]
    rw [he]
    have n59 := ne59 n hx
    have b5 : ¬ (d.st = 0 ∧ d.len < 7) → chunked_Decoder_step_b5 (some a) x.toNat Q h := fun hne => by
      simp only [if_neg hne] at hk
      exact b5 (2, d) (by rw [if_pos (by omega)]) fun h' f s o' => hk h' f s o'
    refine ifE (fun (e : (d.st : Int) = 0) => ?_) fun (e : (d.st : Int) ≠ 0) => b5 (by omega)
    rw [if_pos (by rw [decide_eq_true_eq]; omega)]
    refine nn_mk (ldI_mk (o.cells.at rfl) ?_)
    refine ifD (fun (e3 : (d.len : Int) < 7) => ?_) fun (e3 : ¬ (d.len : Int) < 7) => b5 (by omega)
    refine nn_mk (ldI_mk (o.cells.at rfl) (nn_mk ?_))
    rw [wr (x := (d.sz : Int) * 16) (by omega) (by omega), wr (by omega) (by omega)]
    refine st1_own o 2 (by simp [Dec.vals]) rfl fun h1 f1 s1 o1 => ?_
    have hc : (d.st = 0 ∧ d.len < 7) := by omega
    simp only [if_pos hc] at hk
    have o1 : OwnD h1 a { d with sz := d.sz * 16 + n } := o1
    exact stepl_c o1 ok fun h2 f2 s2 o2 => hk h2 (f1.trans f2) (by omega) o2
theorem step_c [Gh] {h : Heap} {a : Addr} {d : Dec} (o : OwnD h a d) (ok : d.ok) (x : UInt8) {Q : Value → Heap → Prop}
    (hk : ∀ h', Fr (fun b => b = a.block) h h' → h'.size = h.size → OwnD h' a (stepD d x.toNat).2 → Q (.int .i64 (stepD d x.toNat).1) h') : CallT Tryd.prog fn_chunked_Decoder_step #[.pointer (some a), .int .u8 x.toNat] h Q := by
  apply chunked_Decoder_step_s
  unfold chunked_Decoder_step_v chunked_Decoder_step_b2
  unfold stepD at hk
  obtain ⟨ok1, ok2, -⟩ := ok
  refine ifE (fun e => ?_) fun e => ?_
  · rw [if_pos (by omega)] at hk
    exact line_c o fun h' f s o' => ⟨_, rfl, hk h' f s o'⟩
  rw [if_neg (by omega)] at hk
  have b4 : ∀ b : Bool, (b = true ↔ d.st = 0 ∨ d.st = 3) → chunked_Decoder_step_b4 (some a) x.toNat b Q h := fun b hb => by
    unfold chunked_Decoder_step_b4
    refine nn_mk (ldB_mk (o.cells.at rfl) ?_)
    refine ifB (fun (e : d.w = true) => ?_) fun (e : d.w = false) => ?_
    · rw [if_pos e] at hk
      refine nn_mk (st1_own o 3 (by simp [Dec.vals]) rfl fun h1 f1 s1 o1 => ?_)
      have o1 : OwnD h1 a { d with w := false } := o1
      refine ifB (fun e2 => ?_) fun e2 => ?_
      · rw [if_pos (hb.1 e2)] at hk; exact hk _ f1 s1 o1
      · rw [if_neg (fun h => by rw [hb.2 h] at e2; cases e2)] at hk
        refine count_c o1 ok1 fun h2 f2 s2 o2 => ⟨_, rfl, ?_⟩
        refine ifNe (fun e3 => ?_) fun e3 => ?_
        · rw [if_pos (by omega)] at hk; exact hk _ (f1.trans f2) (by omega) o2
        · have e3' : (cnt { d with w := false }).1 = 0 := by omega
          rw [if_neg (not_not_intro e3')] at hk
          refine stepC_c o2 ?_ ok2 x hb fun h3 f3 s3 o3 => hk _ ((f1.trans f2).trans f3) (by omega) o3
          unfold cnt at e3' ⊢; simp only at e3' ⊢; split at e3' <;> omega
    · rw [if_neg (by rw [e]; decide)] at hk
      exact stepC_c o ok1 ok2 x hb hk
  refine nn_mk (ldI_mk (o.cells.at0 rfl) ?_)
  refine ifE (fun (e : (d.st : Int) = 0) => b4 _ ?_) fun (e : (d.st : Int) ≠ 0) => nn_mk (ldI_mk (o.cells.at0 rfl) (b4 _ ?_))
  · simp; omega
  · simp only [beq_iff_eq]; omega
end Go.Proofs.YtjhcockaojlfiaaDoor
