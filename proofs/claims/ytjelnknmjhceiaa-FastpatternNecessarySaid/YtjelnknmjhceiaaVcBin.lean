/-
  Binary operations, and all quiet operations together.
-/
import Derived.Test.YtjelnknmjhceiaaVcSound
namespace Go.Proofs.Ytjelnknmjhceiaa
set_option linter.unusedSimpArgs false
set_option linter.unusedVariables false
set_option maxRecDepth 20000
open Go
variable {P : Program} {o : Oper} {e : Env} {h : Heap} {K : Value → Prop}

theorem eqSIn_run {d : TypeDesc} {n : Nat} {t : TypeId} {x y : Value} {b : Bool} (hu : P.underlying t = some d) (he : eqS d x y = some b) (w : World) :
    (Op.equalIn (n + 1) t x y).run P w = .ok b w := by
  unfold Op.equalIn; simp only [bind]
  rw [runBind (underlying_run hu w)]
  unfold eqS at he
  split at he <;> first | (simp at he; done) | skip
  · simp only [Option.some.injEq] at he; subst he; rfl
  · split at he
    · rename_i hk; simp only [Option.some.injEq] at he; subst he; simp only [hk, if_true]; rfl
    · simp at he
  · simp only [Option.some.injEq] at he; subst he; rfl
  · rename_i p; simp only [Option.some.injEq] at he; subst he; cases p <;> rfl
  · rename_i p hp; simp only [Option.some.injEq] at he; subst he; rfl
  · rename_i a n c n' c'; simp only [Option.some.injEq] at he; subst he; cases a <;> rfl
  · rename_i a n c n' c' hp; simp only [Option.some.injEq] at he; subst he; rfl
  · rename_i r; simp only [Option.some.injEq] at he; subst he; cases r <;> rfl
  · rename_i r hp; simp only [Option.some.injEq] at he; subst he; rfl
  · simp only [Option.some.injEq] at he; subst he; rfl
  · simp only [Option.some.injEq] at he; subst he; rfl
theorem eqS_run {d : TypeDesc} {t : TypeId} {x y : Value} {b : Bool} (hu : P.underlying t = some d) (he : eqS d x y = some b) (w : World) :
    (Op.equal t x y).run P w = .ok b w := eqSIn_run (n := 9999) hu he w
theorem part_run {t : TypeId} {cs : Array Value} {off : Nat} {v : Value} (h : partV P t cs off = some v) (w : World) : (part t cs off).run P w = .ok v w := by
  unfold partV at h
  split at h
  case isFalse => cases h
  rename_i hu
  unfold part; simp only [bind]
  rw [runBind (isAgg_run hu w)]
  split at h
  · rename_i ha; rw [ha]; simp only [if_true]
    rw [runBind (size_run (underlying_info hu) w)]
    simp only [Option.some.injEq] at h; subst h; rfl
  · rename_i ha; simp only [ha]
    simp only [Bool.false_eq_true, if_false, h]; rfl
theorem eqFs_run {rec : TypeId → Value → Value → Option Bool} {eqn : TypeId → Value → Value → Sem Bool} (hrec : ∀ t x y b, rec t x y = some b → ∀ w, (eqn t x y).run P w = .ok b w) {xs ys : Array Value} (w : World) :
    ∀ (fs : List Field) {b : Bool}, eqFs P rec xs ys fs = some b →
    (forIn fs ((none, ()) : Option Bool × Unit) fun f __s =>
                if f.name ≠ "_" then
                  (part f.type xs f.offset).bind fun a =>
                    (part f.type ys f.offset).bind fun b =>
                      (eqn f.type a b).bind fun r =>
                        if (!r) = true then (pure (ForInStep.done (some false, ())) : Sem _)
                        else pure (ForInStep.yield (none, ()))
                else pure (ForInStep.yield (none, ()))).run P w = .ok (if b then (none, ()) else (some false, ())) w
  | [], b, h => by simp [eqFs] at h; subst h; rfl
  | f :: fs, b, h => by
    rw [List.forIn_cons]
    unfold eqFs at h
    split at h
    · rename_i hn
      simp only [hn, ne_eq, not_true, if_false, bind, pure, Sem.bind]
      exact eqFs_run hrec w fs h
    · rename_i hn
      split at h
      case h_2 => cases h
      rename_i a c ha hc
      split at h
      case h_2 => cases h
      rename_i p q hp hq
      simp only [Option.some.injEq] at h
      simp only [hn, ne_eq, not_false_iff, if_true, bind]
      rw [runBind (a := if p then ForInStep.yield (none, ()) else ForInStep.done (some false, ())) (w' := w)]
      · cases p
        · simp only [Bool.false_and] at h; subst h; rfl
        · simp only [Bool.true_and] at h; subst h
          exact eqFs_run hrec w fs hq
      · rw [runBind (part_run ha w), runBind (part_run hc w), runBind (hrec _ _ _ _ hp w)]
        cases p <;> rfl
theorem eqEs_run {el : TypeId} {n : Nat} {rec : Value → Value → Option Bool} {eqn : Value → Value → Sem Bool} (hrec : ∀ x y b, rec x y = some b → ∀ w, (eqn x y).run P w = .ok b w) {xs ys : Array Value} (w : World) :
    ∀ (is : List Nat) {b : Bool}, eqEs P rec el n xs ys is = some b →
    (forIn is ((none, ()) : Option Bool × Unit) fun i __s =>
                  (part el xs (i * n)).bind fun a =>
                    (part el ys (i * n)).bind fun b =>
                      (eqn a b).bind fun r =>
                        if (!r) = true then (pure (ForInStep.done (some false, ())) : Sem _)
                        else pure (ForInStep.yield (none, ()))).run P w = .ok (if b then (none, ()) else (some false, ())) w
  | [], b, h => by simp [eqEs] at h; subst h; rfl
  | i :: is, b, h => by
    rw [List.forIn_cons]
    unfold eqEs at h
    split at h
    case h_2 => cases h
    rename_i a c ha hc
    split at h
    case h_2 => cases h
    rename_i p q hp hq
    simp only [Option.some.injEq] at h
    simp only [bind]
    rw [runBind (a := if p then ForInStep.yield (none, ()) else ForInStep.done (some false, ())) (w' := w)]
    · cases p
      · simp only [Bool.false_and] at h; subst h; rfl
      · simp only [Bool.true_and] at h; subst h
        exact eqEs_run hrec w is hq
    · rw [runBind (part_run ha w), runBind (part_run hc w), runBind (hrec _ _ _ hp w)]
      cases p <;> rfl
theorem eqB_run : ∀ (d : Nat) (t : TypeId) (x y : Value) (b : Bool), eqB P d t x y = some b → ∀ w, (Op.equalIn d t x y).run P w = .ok b w
  | 0, _, _, _, _, h, _ => by simp [eqB] at h
  | d + 1, t, x, y, b, h, w => by
    unfold eqB at h
    split at h
    · rename_i fs hu
      split at h
      case h_2 => cases h
      rename_i xs ys
      split at h
      · cases h
      rename_i hs
      unfold Op.equalIn; simp only [bind]
      rw [runBind (underlying_run hu w)]
      simp only
      have hp : (program : Sem Program).run P w = .ok P w := rfl
      rw [runBind hp]
      simp only [hs]
      simp only [Bool.false_eq_true, if_false]
      rw [← Array.forIn_toList]
      rw [runBind (eqFs_run (fun t x y b hb w => eqB_run d t x y b hb w) w fs.toList h)]
      cases b <;> rfl
    · rename_i len el hu
      split at h
      case h_2 => cases h
      rename_i xs ys
      split at h
      case isFalse => cases h
      rename_i hs
      unfold Op.equalIn; simp only [bind]
      rw [runBind (underlying_run hu w)]
      simp only
      rw [runBind (size_run hs w)]
      rw [Std.Legacy.Range.forIn_eq_forIn_range']
      simp only [Std.Legacy.Range.size, Nat.sub_zero, Nat.add_sub_cancel, Nat.div_one]
      rw [runBind (eqEs_run (fun x y b hb w => eqB_run d el x y b hb w) w _ h)]
      cases b <;> rfl
    · rename_i td hns hu
      exact eqSIn_run hu h w
    · cases h

theorem q_eq {t : TypeId} {x y : Operand} {neg : Bool} {yt : TypeId} (ho : o.op = .binOp (if neg then .neq else .eql) t x y yt)
    (hg : ∀ w : World, (eqGuard (if neg then .neq else .eql) t x y (eev e x) (eev e y)).run P w = .ok () w)
    (hb : binOp (if neg then .neq else .eql) t (eev e x) (eev e y) = (if neg then do pure (.bool (!(← Op.equal t (eev e x) (eev e y)))) else do pure (.bool (← Op.equal t (eev e x) (eev e y)))))
    (hh : match P.underlying t with
      | some d => match eqS d (eev e x) (eev e y) with | some b => K (.bool (if neg then !b else b)) | none => False
      | none => False) : ∃ v, QAll P o e v ∧ K v := by
  split at hh
  case h_2 => exact hh.elim
  rename_i d hu
  split at hh
  case h_2 => exact hh.elim
  rename_i b he
  refine ⟨_, fun w => ?_, hh⟩
  unfold execOp; rw [ho]; refine run_value ?_
  simp only [bind]
  rw [runBind (hg w), hb]
  cases neg
  · simp only [Bool.false_eq_true, if_false, bind]; rw [runBind (eqS_run hu he w)]; rfl
  · simp only [if_true, bind]; rw [runBind (eqS_run hu he w)]; rfl

theorem ptr_run {t el : TypeId} {p q : Option Addr} {K' : Bool → Prop} (hu : P.underlying t = some (.pointer el)) (hi : (P.info? el).isSome = true) (hh : ptrQ p q K') :
    ∃ b, (∀ w : World, (Op.equal t (.pointer p) (.pointer q)).run P w = .ok b w) ∧ K' b := by
  cases q with
  | none => exact ⟨_, fun w => eqS_run hu rfl w, hh⟩
  | some b =>
    cases p with
    | none => exact ⟨_, fun w => eqS_run hu rfl w, hh⟩
    | some a =>
      obtain ⟨rfl, hh⟩ := hh
      refine ⟨true, fun w => ?_, hh⟩
      show (Op.equalIn (9999 + 1) t (.pointer (some a)) (.pointer (some a))).run P w = _
      unfold Op.equalIn; simp only [bind]
      rw [runBind (underlying_run hu w)]
      simp only
      rw [runBind (size_run hi w)]
      by_cases h0 : sizeB P el = 0
      · simp [h0, pure, Sem.run]
      · have hb : (a == a) = true := by simp
        simp [h0, sameAddr, pure, Sem.run]
theorem q_ptr {t : TypeId} {x y : Operand} {neg : Bool} {yt : TypeId} {p q : Option Addr} (ho : o.op = .binOp (if neg then .neq else .eql) t x y yt) (hx : eev e x = .pointer p) (hy : eev e y = .pointer q)
    (hh : match P.underlying t with
      | some (.pointer el) => if (P.info? el).isSome = true then ptrQ p q fun b => K (.bool (if neg then !b else b)) else False
      | some d => match eqS d (eev e x) (eev e y) with | some b => K (.bool (if neg then !b else b)) | none => False
      | none => False) : ∃ v, QAll P o e v ∧ K v := by
  have hg : ∀ w : World, (eqGuard (if neg then .neq else .eql) t x y (eev e x) (eev e y)).run P w = .ok () w := fun w => by rw [hx, hy]; cases neg <;> rfl
  have hb : binOp (if neg then .neq else .eql) t (eev e x) (eev e y) = (if neg then do pure (.bool (!(← Op.equal t (eev e x) (eev e y)))) else do pure (.bool (← Op.equal t (eev e x) (eev e y)))) := by rw [hx, hy]; cases neg <;> rfl
  split at hh
  · rename_i el hu
    split at hh
    case isFalse => exact hh.elim
    rename_i hi
    obtain ⟨b, hr, hk⟩ := ptr_run hu hi hh
    refine ⟨_, fun w => ?_, hk⟩
    unfold execOp; rw [ho]; refine run_value ?_
    simp only [bind]
    rw [runBind (hg w), hb, hx, hy]
    cases neg
    · simp only [Bool.false_eq_true, if_false, bind]; rw [runBind (hr w)]; rfl
    · simp only [if_true, bind]; rw [runBind (hr w)]; rfl
  · rename_i d hu hd
    exact q_eq ho hg hb (by rw [hd]; exact hh)
  · exact hh.elim
theorem q_bin {op : BinOp} {t : TypeId} {x y : Operand} {yt : TypeId} (ho : o.op = .binOp op t x y yt) (hh : vcBin P o e op t x y K) : ∃ v, QAll P o e v ∧ K v := by
  unfold vcBin at hh
  have key : ∀ (v : Value), (eqGuard op t x y (eev e x) (eev e y) = pure ()) → (∀ w : World, (binOp op t (eev e x) (eev e y)).run P w = .ok v w) → QAll P o e v := fun v hg hv w => by
    unfold execOp; rw [ho]; refine run_value ?_
    simp only [bind]; rw [hg]; exact hv w
  split at hh
  case h_1 k a k' b hx hy =>
    split at hh
    case isFalse => exact hh.elim
    rename_i hk
    refine ⟨_, key _ rfl (fun w => ?_), hh.2⟩
    rw [hx, hy]; subst hk; simp only [binOp, ne_eq, not_true, if_false, Op.intDiv, hh.1]; rfl
  case h_2 k a k' b hx hy =>
    split at hh
    case isFalse => exact hh.elim
    rename_i hk
    refine ⟨_, key _ rfl (fun w => ?_), hh.2⟩
    rw [hx, hy]; subst hk; simp only [binOp, ne_eq, not_true, if_false, Op.intDiv, hh.1]; rfl
  case h_3 k a k' b hx hy =>
    refine ⟨_, key _ rfl (fun w => ?_), hh.2⟩
    have h0 : ¬ b < 0 := by have := hh.1; omega
    rw [hx, hy]; simp only [binOp, Op.shift, h0, if_false]; rfl
  case h_4 k a k' b hx hy =>
    refine ⟨_, key _ rfl (fun w => ?_), hh.2⟩
    have h0 : ¬ b < 0 := by have := hh.1; omega
    rw [hx, hy]; simp only [binOp, Op.shift, h0, if_false]; rfl
  case h_5 a b hx hy =>
    refine ⟨_, key _ rfl (fun w => ?_), hh.2⟩
    have h0 : ¬ ((a.size + b.size : Nat) : Int) > IntKind.i64.max := by have := hh.1; omega
    rw [hx, hy]; simp only [binOp, Op.stringOp, h0, if_false]; rfl
  case h_6 p q hx hy => exact q_ptr (neg := false) ho hx hy hh
  case h_7 p q hx hy => exact q_ptr (neg := true) ho hx hy hh
  case h_8 p n c q n' c' hx hy => exact q_eq (neg := false) ho (fun w => by rw [hx, hy]; rfl) (by rw [hx, hy]; rfl) hh
  case h_9 p n c q n' c' hx hy => exact q_eq (neg := true) ho (fun w => by rw [hx, hy]; rfl) (by rw [hx, hy]; rfl) hh
  case h_10 p q hx hy => exact q_eq (neg := false) ho (fun w => by rw [hx, hy]; rfl) (by rw [hx, hy]; rfl) hh
  case h_11 p q hx hy => exact q_eq (neg := true) ho (fun w => by rw [hx, hy]; rfl) (by rw [hx, hy]; rfl) hh
  case h_12 xs ys hx hy =>
    split at hh
    case isFalse => exact hh.elim
    rename_i hg
    split at hh
    case h_2 => exact hh.elim
    rename_i b hb
    refine ⟨_, fun w => ?_, hh⟩
    unfold execOp; rw [ho]; refine run_value ?_
    have hgr : (eqGuard .eql t x y (eev e x) (eev e y)).run P w = .ok () w := by
      rw [hx, hy]
      show ((if (!P.eqGuardType P.depth t) = true then pure () else _ : Sem Unit)).run P w = _
      rw [hg]; rfl
    simp only [bind]; rw [runBind hgr]
    have hbo : binOp .eql t (eev e x) (eev e y) = (do pure (.bool (← Op.equal t (eev e x) (eev e y)))) := by rw [hx, hy]; rfl
    rw [hbo]; simp only [bind]; unfold Op.equal; rw [runBind (eqB_run _ _ _ _ _ hb w)]; rfl
  case h_13 xs ys hx hy =>
    split at hh
    case isFalse => exact hh.elim
    rename_i hg
    split at hh
    case h_2 => exact hh.elim
    rename_i b hb
    refine ⟨_, fun w => ?_, hh⟩
    unfold execOp; rw [ho]; refine run_value ?_
    have hgr : (eqGuard .neq t x y (eev e x) (eev e y)).run P w = .ok () w := by
      rw [hx, hy]
      show ((if (!P.eqGuardType P.depth t) = true then pure () else _ : Sem Unit)).run P w = _
      rw [hg]; rfl
    simp only [bind]; rw [runBind hgr]
    have hbo : binOp .neq t (eev e x) (eev e y) = (do pure (.bool (!(← Op.equal t (eev e x) (eev e y))))) := by rw [hx, hy]; rfl
    rw [hbo]; simp only [bind]; unfold Op.equal; rw [runBind (eqB_run _ _ _ _ _ hb w)]; rfl
  case h_14 => exact q_default hh

def isLoad (o : Op) : Bool := match o with | .load .. => true | _ => false
theorem vcQ_all (hl : isLoad o.op = false) (hh : vcQ P o e h K) : ∃ v, QAll P o e v ∧ K v := by
  cases ho : o.op with
  | load t x => simp [isLoad, ho] at hl
  | nilCheck x => exact q_nilCheck ho hh
  | index t x i => exact q_index ho hh
  | indexAddr t x i => exact q_indexAddr ho hh
  | slice t x lo hi mx => exact q_slice ho hh
  | pick c a b => exact q_pick ho hh
  | binOp op t x y yt => unfold vcQ at hh; rw [ho] at hh; exact q_bin ho hh
  | extract x i =>
    unfold vcQ at hh; rw [ho] at hh
    simp only at hh
    cases hq : quietV P (execOp (eev e) o) with
    | none => rw [hq] at hh; exact hh.elim
    | some v => rw [hq] at hh; exact ⟨v, fun w => quietV_run _ hq w, dTy_elim hh⟩
  | _ => unfold vcQ at hh; rw [ho] at hh; exact q_default hh
theorem vcQ_sound (hh : vcQ P o e h K) : ∃ v, QOk P o e h v ∧ K v := by
  cases hl : isLoad o.op with
  | false => obtain ⟨v, hv, hk⟩ := vcQ_all hl hh; exact ⟨v, fun w _ => hv w, hk⟩
  | true =>
    cases ho : o.op with
    | load t x => exact q_load ho hh
    | _ => simp [isLoad, ho] at hl
end Go.Proofs.Ytjelnknmjhceiaa
