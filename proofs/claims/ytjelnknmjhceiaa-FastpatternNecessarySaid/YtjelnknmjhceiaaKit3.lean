/-
  Builtins on bytes: copy out of a string, strings that share a row.
-/
import Derived.Test.YtjelnknmjhceiaaKit2
import Derived.Lib.UnsafeStr
namespace Go.Proofs.Ytjelnknmjhceiaa
set_option linter.unusedSimpArgs false
set_option linter.unusedVariables false
set_option maxRecDepth 20000
open Go
section
variable {P : Program}
theorem bltV_value {b : Builtin} {ts : Array TypeId} {ty : TypeId} {cs : Array Bool} {args : Array Value} {s : Sem Value} {h : Heap} {K : Value → Heap → Prop}
    (hb : builtin b ts ty cs args = (do pure (.value (← s)))) (hk : wpH P s K h) : bltV P b ts ty cs args h K := by
  unfold bltV; rw [hb]; simp only [bind]; rw [wpH_bind]; exact hk
/-- copy(b, s) where b is as long as s, into a block that the call owns. -/
theorem copyS_mk {dT sT ty e T : TypeId} {cs : Array Bool} (hd : P.underlying dT = some (.slice e)) (he : (P.info? e).isSome) (hz : sizeB P e = 1) {h : Heap} {a : Addr} {vs : List Value} (o : Own h a vs T) (l : List UInt8)
    (hl : vs.length = l.length) {c : Nat} {K : Value → Heap → Prop} (hk : ∀ h', Fr (fun b => b = a.block) h h' → Own h' a (bytesV l) T → K (.int .i64 l.length) h') :
    bltV P .copy #[dT, sT] ty cs #[.slice (some a) l.length c, .string (bs l)] h K := by
  refine bltV_value (s := Builtin.copy_ #[dT, sT] ty #[.slice (some a) l.length c, .string (bs l)]) rfl ?_
  unfold Builtin.copy_
  simp only [List.getElem?_toArray, List.getElem?_cons_zero, List.getElem?_cons_succ, bind]
  rw [wpH_bind]; refine wpH_underlying hd ?_
  simp only
  unfold Builtin.lenOf
  simp only [pure, Sem.bind]
  rw [wpH_bind]; refine wpH_size he ?_
  have hsz : (bs l).size = l.length := bs_size l
  have hmin : Nat.min l.length l.length = l.length := Nat.min_self _
  rw [hz, hsz, hmin, wpH_bind]
  unfold Builtin.firstCells
  simp only [pure, wpH, Nat.mul_one]
  have hx : ((bs l).extract 0 l.length).data.map (fun b => Value.int .u8 b.toNat) = (bytesV l).toArray := by
    have : (bs l).extract 0 l.length = bs l := by rw [bs_extract]; simp
    rw [this]; apply Array.ext'; simp [bs, bytesV, byteV]
  rw [hx]
  rw [wpH_bind]
  have hadd : ∀ i, a.add i = ⟨a.block, 0 + i, none⟩ := fun i => by rw [o.mk_eq, add_mk]
  refine wpH_store hadd (bytesV l) 0 _ h o.blk (.inl rfl) (bytesV_cellV l) (by simp [bytesV_len, hl]) ?_
  simp only [wpH, goInt]
  refine hk _ (Fr.set _ _ rfl) ⟨o.off, o.spot, ?_⟩
  rw [get_set o.blk]
  rw [splice_all (bytesV l) vs (by rw [bytesV_len, hl])]
theorem wpH_loadBytes {h : Heap} {K : ByteArray → Heap → Prop} : ∀ (l : List UInt8) (a : Addr) (acc : ByteArray), (∀ j, j < l.length → hcell h (a.add j) = some (.int .u8 (l.getD j 0).toNat)) → K ⟨acc.data ++ l.toArray⟩ h → wpH P (loadBytes a acc l.length) K h
  | [], a, acc, _, hk => by simpa [loadBytes, pure, wpH] using hk
  | x :: l, a, acc, hc, hk => by
    have h0 := hc 0 (by simp)
    unfold loadBytes
    simp only [List.length_cons, bind]
    refine ⟨_, h0, ?_⟩
    have hx : ((((x :: l).getD 0 0).toNat : Int)).toNat.toUInt8 = x := by simp
    simp only [Sem.bind]
    rw [hx]
    refine wpH_loadBytes l (a.add 1) (acc.push x) (fun j hj => ?_) ?_
    · have := hc (j + 1) (by simp; omega)
      have e : (a.add 1).add j = a.add (j + 1) := by
        unfold Addr.add
        obtain ⟨b, o, s⟩ := a
        cases j <;> simp [Nat.add_assoc, Nat.add_comm]
      rw [e, this]; simp
    · have : (acc.push x).data ++ l.toArray = acc.data ++ (x :: l).toArray := by simp [ByteArray.push]
      rw [this]; exact hk
theorem unsafeStr_mk {pt iT ty e : TypeId} {cs : Array Bool} (hp : P.underlying pt = some (.pointer e)) (hc : P.cellsOf e = 1) {h : Heap} {a : Addr} {l : List UInt8} (o : Own h a (bytesV l) e) (hl : l.length ≤ 9223372036854775807)
    {K : Value → Heap → Prop} (hk : ∀ h', Fr (fun b => b = a.block) h h' → K (.string (bs l)) h') : bltV P .unsafeString #[pt, iT] ty cs #[.pointer (some a), .int .i64 l.length] h K := by
  refine bltV_value (s := Builtin.unsafeString_ #[pt, iT] ty #[.pointer (some a), .int .i64 l.length]) rfl ?_
  have hdef : Builtin.unsafeString_ #[pt, iT] ty #[.pointer (some a), .int .i64 (l.length : Int)] =
      (do
        if (l.length : Int) < 0 then runtimePanic (.error "unsafe.String: len out of range")
        if (l.length : Int) > IntKind.i64.max then unsupported (.unsafePointer "String: a length above the largest int")
        if (l.length : Int) = 0 then pure (.string .empty)
        else if ← variablesAt a (← elemOf pt) ((l.length : Int)).toNat then do
          let s ← loadBytes a .empty ((l.length : Int)).toNat
          freeze a ((l.length : Int)).toNat
          pure (.string s)
        else unsupported (.unsafePointer "String: not so many bytes at ptr")) := rfl
  rw [hdef]
  simp only [bind, pure, Sem.bind]
  rw [if_neg (by omega), if_neg (by rw [imax]; omega)]
  by_cases h0 : l = []
  · subst h0
    rw [if_pos (by simp)]
    exact hk h (Fr.refl _ _)
  · have hne : ¬ ((l.length : Int) = 0) := by
      intro e; apply h0; exact List.length_eq_zero_iff.1 (by omega)
    rw [if_neg hne]
    unfold elemOf
    simp only [bind]
    rw [wpH_bind, wpH_bind]
    refine wpH_underlying hp ?_
    simp only [pure, wpH]
    unfold variablesAt program shape
    simp only [bind, pure, Sem.bind, wpH]
    have hs : hshape h a.block = some (e, l.length) := by
      unfold hshape; rw [o.blk]; simp [bytesV_len]
    rw [hs]
    simp only [Sem.bind, wpH]
    rw [hc, Nat.div_one, o.off, Int.toNat_natCast, Lib.liesAt_bytes hc l.length l.length (Nat.le_refl _)]
    rw [if_pos rfl, wpH_bind]
    refine wpH_loadBytes l a .empty (fun j hj => ?_) ?_
    · have := o.cells.at (j := j) (v := .int .u8 (l.getD j 0).toNat) (by simp [bytesV, byteV, hj])
      exact this
    · unfold freeze
      simp only [Sem.bind, wpH]
      have e1 : (⟨ByteArray.empty.data ++ l.toArray⟩ : ByteArray) = bs l := by
        have : ByteArray.empty.data ++ l.toArray = l.toArray := Array.empty_append
        rw [this]; rfl
      rw [e1]
      refine hk _ ⟨?_, fun b hb hn => ?_⟩
      · unfold hfreeze; split <;> simp
      · unfold hfreeze; split
        · rfl
        · rw [Array.getElem?_modify, if_neg (fun e => hn e.symm)]
end
end Go.Proofs.Ytjelnknmjhceiaa
