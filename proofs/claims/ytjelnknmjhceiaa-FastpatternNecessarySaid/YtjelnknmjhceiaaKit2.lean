/-
  Words of walks over conditions of whole trees: cells that are known, blocks that a call owns, ways that part.
-/
import Derived.Test.YtjelnknmjhceiaaKit
import Derived.Test.YtjelnknmjhceiaaVcTree
namespace Go.Proofs.Ytjelnknmjhceiaa
set_option linter.unusedSimpArgs false
set_option linter.unusedVariables false
set_option maxRecDepth 20000
open Go
/-! ### Cells that are known -/
theorem Cells.at {h : Heap} {a : Addr} {vs : List Value} (c : Cells h a vs) {j : Nat} {v : Value} (hv : vs[j]? = some v) : hcell h (a.add j) = some v := by
  obtain ⟨hj, rfl⟩ := List.getElem?_eq_some_iff.1 hv
  exact c j hj
theorem Cells.at0 {h : Heap} {a : Addr} {vs : List Value} (c : Cells h a vs) {v : Value} (hv : vs[0]? = some v) : hcell h a = some v := c.at hv
theorem Cells.fr {S : Nat → Prop} {h h' : Heap} {a : Addr} {vs : List Value} (c : Cells h a vs) (f : Fr S h h') (hn : ¬ S a.block) : Cells h' a vs :=
  fun j hj => f.hcell (c j hj) (by rw [add_block]; exact hn)
theorem Cells.fr0 {h h' : Heap} {a : Addr} {vs : List Value} (f : Fr (fun _ => False) h h') (c : Cells h a vs) : Cells h' a vs := c.fr f id
theorem Cells.lt {h : Heap} {a : Addr} {v : Value} {vs : List Value} (c : Cells h a (v :: vs)) : a.block < h.size := hcell_lt (c.at0 rfl)
/-- A block that is wholly known, from its head on. -/
structure Own (h : Heap) (a : Addr) (vs : List Value) (T : TypeId) : Prop where
  off : a.off = 0
  spot : a.spot = none
  blk : h[a.block]? = some (.cells vs.toArray T (0, 0))
theorem Own.mk_eq {h : Heap} {a : Addr} {vs : List Value} {T : TypeId} (o : Own h a vs T) : a = ⟨a.block, 0, none⟩ := by
  obtain ⟨h1, h2, _⟩ := o; obtain ⟨b, f, s⟩ := a; simp only at h1 h2; subst h1 h2; rfl
theorem Own.cells {h : Heap} {a : Addr} {vs : List Value} {T : TypeId} (o : Own h a vs T) : Cells h a vs := by
  intro j hj
  rw [o.mk_eq, add_mk, Nat.zero_add, hcell_blk o.blk, List.getElem?_toArray, List.getElem?_eq_getElem hj]
theorem Own.fr {S : Nat → Prop} {h h' : Heap} {a : Addr} {vs : List Value} {T : TypeId} (o : Own h a vs T) (f : Fr S h h') (hn : ¬ S a.block) : Own h' a vs T :=
  ⟨o.off, o.spot, f.get o.blk hn⟩
theorem Own.fr0 {h h' : Heap} {a : Addr} {vs : List Value} {T : TypeId} (f : Fr (fun _ => False) h h') (o : Own h a vs T) : Own h' a vs T := o.fr f id
theorem Own.lt {h : Heap} {a : Addr} {vs : List Value} {T : TypeId} (o : Own h a vs T) : a.block < h.size := lt_of_get o.blk
theorem al_mk {h : Heap} {vs : List Value} {T : TypeId} {K : Addr → Heap → Prop} (hk : ∀ a h', Fr (fun _ => False) h h' → a.block = h.size → Own h' a vs T → K a h') : alV h (.cells vs.toArray T) K :=
  hk _ _ (Fr.push _ _ _) rfl ⟨rfl, rfl, get_push_self⟩
theorem splice_all : ∀ (vs zs : List Value), vs.length = zs.length → splice zs.toArray 0 vs = vs.toArray := by
  intro vs zs hl
  apply Array.ext_getElem?
  intro i
  rw [splice_get vs _ 0 (by simp; omega)]
  split
  · simp
  · rename_i hi
    rw [List.getElem?_toArray, List.getElem?_toArray, List.getElem?_eq_none (by omega), List.getElem?_eq_none (by omega)]
theorem all_cellV {vs : List Value} (h : vs.all cellV = true) : ∀ v ∈ vs, cellV v = true := fun v hv => List.all_eq_true.1 h v hv
theorem cp_mk {h : Heap} {vs zs : List Value} {T : TypeId} {K : Addr → Heap → Prop} (hv : vs.all cellV = true) (hl : vs.length = zs.length)
    (hk : ∀ a h', Fr (fun _ => False) h h' → a.block = h.size → Own h' a vs T → K a h') : alV h (.cells zs.toArray T) fun a h1 => stN h1 a vs 0 fun h2 => K a h2 :=
  st_new (all_cellV hv) hl (splice_all vs zs hl) (hk _ _ (Fr.push _ _ _) rfl ⟨rfl, rfl, get_push_self⟩)
theorem st1_own {h : Heap} {a : Addr} {vs : List Value} {T : TypeId} (o : Own h a vs T) (j : Nat) {v : Value} {K : Heap → Prop} (hj : j < vs.length) (hv : cellV v = true)
    (hk : ∀ h', Fr (fun b => b = a.block) h h' → h'.size = h.size → Own h' a (vs.set j v) T → K h') : st1 h (a.add j) v K := by
  have hb := o.blk
  have e : a.add j = ⟨a.block, j, none⟩ := by rw [o.mk_eq, add_mk, Nat.zero_add]
  rw [e]
  refine ⟨hv, by rw [hcell_blk hb]; simp [hj], hfrozen_blk hb, ?_⟩
  rw [hset_blk hb]
  refine hk _ (Fr.set _ _ rfl) (by simp) ⟨o.off, o.spot, ?_⟩
  rw [get_set hb]; simp
theorem st1_own0 {h : Heap} {a : Addr} {vs : List Value} {T : TypeId} (o : Own h a vs T) {v : Value} {K : Heap → Prop} (hj : 0 < vs.length) (hv : cellV v = true)
    (hk : ∀ h', Fr (fun b => b = a.block) h h' → h'.size = h.size → Own h' a (vs.set 0 v) T → K h') : st1 h a v K := st1_own o 0 hj hv hk
theorem stN_own {h : Heap} {a : Addr} {vs ws : List Value} {T : TypeId} (o : Own h a vs T) {K : Heap → Prop} (hl : ws.length = vs.length) (hv : ws.all cellV = true)
    (hk : ∀ h', Fr (fun b => b = a.block) h h' → h'.size = h.size → Own h' a ws T → K h') : stN h a ws 0 K := by
  rw [o.mk_eq]
  refine stN_blk ws 0 _ h o.blk (all_cellV hv) (by simp; omega) ?_
  rw [splice_all ws vs hl]
  exact hk _ (Fr.set _ _ rfl) (by simp) ⟨o.off, o.spot, get_set o.blk⟩
/-! ### Ways -/
theorem ifD {p : Prop} [Decidable p] {X Y : Prop} (h1 : p → X) (h2 : ¬ p → Y) : if decide p = true then X else Y := by
  by_cases hp : p
  · rw [if_pos (by simpa using hp)]; exact h1 hp
  · rw [if_neg (by simpa using hp)]; exact h2 hp
theorem ifE {x y : Int} {X Y : Prop} (h1 : x = y → X) (h2 : x ≠ y → Y) : if (x == y) = true then X else Y := by
  by_cases hp : x = y
  · rw [if_pos (by simpa using hp)]; exact h1 hp
  · rw [if_neg (by simpa using hp)]; exact h2 hp
theorem ifNe {x y : Int} {X Y : Prop} (h1 : x ≠ y → X) (h2 : x = y → Y) : if (x != y) = true then X else Y := by
  by_cases hp : x = y
  · rw [if_neg (by simpa using hp)]; exact h2 hp
  · rw [if_pos (by simpa using hp)]; exact h1 hp
theorem ifS {l m : List UInt8} {X Y : Prop} (h1 : l = m → X) (h2 : l ≠ m → Y) : if ((bs l).toList == (bs m).toList) = true then X else Y := by
  rw [bs_toList, bs_toList]
  by_cases hp : l = m
  · rw [if_pos (by simpa using hp)]; exact h1 hp
  · rw [if_neg (by simpa using hp)]; exact h2 hp
theorem ifS0 {l : List UInt8} {X Y : Prop} (h1 : l = [] → X) (h2 : l ≠ [] → Y) : if ((bs l).toList == (⟨#[]⟩ : ByteArray).toList) = true then X else Y := ifS (m := []) h1 h2
theorem ifSn {l m : List UInt8} {X Y : Prop} (h1 : l ≠ m → X) (h2 : l = m → Y) : if (!((bs l).toList == (bs m).toList)) = true then X else Y := by
  rw [bs_toList, bs_toList]
  by_cases hp : l = m
  · rw [if_neg (by simpa using hp)]; exact h2 hp
  · rw [if_pos (by simpa using hp)]; exact h1 hp
theorem ifB {b : Bool} {X Y : Prop} (h1 : b = true → X) (h2 : b = false → Y) : if b = true then X else Y := by
  cases b
  · rw [if_neg (by simp)]; exact h2 rfl
  · rw [if_pos rfl]; exact h1 rfl
theorem ifN {b : Bool} {X Y : Prop} (h1 : b = false → X) (h2 : b = true → Y) : if (!b) = true then X else Y := by
  cases b
  · rw [if_pos (by rfl)]; exact h1 rfl
  · rw [if_neg (by simp)]; exact h2 rfl
theorem idxA_mk {n : Int} {len : Nat} {K : Prop} (k : Nat) (hn : n = k) (hk : k < len) (h : K) : idxA n len K := ⟨by omega, by omega, h⟩
theorem nn_mk {a : Addr} {K : Addr → Prop} (h : K a) : nn (some a) K := h
/-! ### New rows, and conversions -/
section
variable {P : Program}
theorem mkSl_mk {sT el : TypeId} {i : TypeInfo} {z : Value} (t : ElemT P sT el i z) (n : Nat) {m : Int} (hm : m = n) (hlim : n * i.bytes ≤ 2 ^ 48) {h : Heap} {K : Value → Heap → Prop}
    (hk : ∀ a h', Fr (fun _ => False) h h' → a.block = h.size → Own h' a (List.replicate n z.cells.toList).flatten el → K (.slice (some a) n n) h') :
    mkSlV P sT (.int .i64 m) (.int .i64 m) h K := by
  subst hm
  unfold mkSlV Instr.makeSlice
  simp only [bind]
  rw [wpH_bind]; refine wpH_underlying t.und ?_
  simp only [asInt, asIntOf, bind, pure, Sem.bind]
  rw [wpH_bind]; refine wpH_info t.info ?_
  have hb := t.bytes
  have hp : (2 : Nat) ^ 48 = 281474976710656 := by decide
  have hn : n ≤ 2 ^ 48 := Nat.le_trans (Nat.le_mul_of_pos_right _ t.bytes) hlim
  have hw : IntKind.wrap .i64 (n : Int) = n := wr (by omega) (by omega)
  rw [hw]
  have hle : ¬ ((decide ((n : Int) < 0) || decide ((i.bytes : Int) * (n : Int) > 2 ^ 48)) = true) := by
    have : (i.bytes : Int) * (n : Int) ≤ 2 ^ 48 := by
      have e : ((n * i.bytes : Nat) : Int) ≤ ((2 ^ 48 : Nat) : Int) := by omega
      rw [Int.natCast_mul, Int.mul_comm] at e
      exact e
    simp only [Bool.or_eq_true, decide_eq_true_eq, not_or]
    omega
  rw [if_neg (by
    simp only [Bool.or_eq_true, decide_eq_true_eq, not_or] at hle ⊢
    omega)]
  have room : ∀ {K : Unit → Heap → Prop} {b : Nat} {h : Heap}, K () h → wpH P (askRoom b) K h := fun hk => by
    unfold askRoom; split <;> exact hk
  rw [wpH_bind]
  refine room ?_
  rw [wpH_bind]
  refine wpH_size (by rw [t.info]; rfl) ?_
  have hsz : sizeB P el = i.size := by simp [sizeB, t.info]
  rw [hsz, Int.toNat_natCast]
  have zr : ∀ {K : Value → Heap → Prop} {h : Heap}, K z h → wpH P (zeroValue el) K h := fun hk => by
    unfold zeroValue; simp only [bind]; rw [wpH_bind]; refine wpH_info t.info ?_; rw [t.zero]; exact hk
  have go : ∀ zs : Array Value, (n * i.size = 0 ∨ zs = z.cells) → wpH P ((newRow el ((Array.range (n * i.size)).map (fun x => zs[x % zs.size]!))).bind fun a => Sem.pure (Value.slice (some a) n n)) K h := by
    intro zs hz
    unfold newRow newObj
    simp only [bind, pure, Sem.bind, wpH]
    refine hk _ _ (Fr.push _ _ _) rfl ⟨rfl, rfl, ?_⟩
    rw [get_push_self]
    congr 2
    apply Array.ext'
    apply List.ext_getElem?
    intro j
    have hzs := t.size
    have hflat : ∀ n j, ((List.replicate n z.cells.toList).flatten)[j]? = if j < n * i.size then some (z.cells[j % z.cells.size]!) else none := by
      intro n
      induction n with
      | zero => intro j; simp
      | succ n ih =>
        intro j
        rw [List.replicate_succ, List.flatten_cons]
        have hl : z.cells.toList.length = i.size := by simpa using hzs
        by_cases hj : j < i.size
        · rw [List.getElem?_append_left (by omega), if_pos (by rw [Nat.succ_mul]; omega)]
          rw [Nat.mod_eq_of_lt (by omega), getElem!_pos z.cells j (by omega)]
          simp [hzs, hj]
        · rw [List.getElem?_append_right (by omega), hl, ih]
          have e : (j - i.size) % z.cells.size = j % z.cells.size := by
            rw [hzs]
            conv => rhs; rw [show j = (j - i.size) + i.size by omega]
            rw [Nat.add_mod_right]
          rw [e]
          by_cases h2 : j - i.size < n * i.size
          · rw [if_pos h2, if_pos (by rw [Nat.succ_mul]; omega)]
          · rw [if_neg h2, if_neg (by rw [Nat.succ_mul]; omega)]
    show _ = ((List.replicate n z.cells.toList).flatten)[j]?
    rw [hflat]
    by_cases hj : j < n * i.size
    · rw [if_pos hj]
      rcases hz with hz | rfl
      · omega
      · simp [hj]
    · rw [if_neg hj]; simp; omega
  split
  · rename_i h0; exact go _ (.inl h0)
  · rw [wpH_bind]; exact zr (go _ (.inr rfl))
theorem convSB_mk {sT dT e : TypeId} (hs : P.underlying sT = some .string) (hd : P.underlying dT = some (.slice e)) (he : P.underlying e = some (.int .u8)) (l : List UInt8) {h : Heap} {K : Value → Heap → Prop}
    (hk : ∀ a c h', Fr (fun _ => False) h h' → (∀ b, InA a b → h.size ≤ b) → OwnC h' a c 1 (bytesV l) → l.length ≤ c → K (.slice a l.length c) h') :
    convV P sT dT (.string (bs l)) h K := by
  unfold convV convert
  simp only [bind]
  rw [wpH_bind]; refine wpH_underlying hs ?_
  rw [wpH_bind]; refine wpH_underlying hd ?_
  simp only
  rw [wpH_bind]; refine wpH_underlying he ?_
  simp only
  unfold Conv.stringToBytes choose
  simp only [bind, Sem.bind]
  refine ⟨fun q => ?_, fun hq => by simp [Question.forced] at hq⟩
  have hsz : (bs l).size = l.length := bs_size l
  have hdat : (bs l).data.map (fun b => Value.int .u8 b.toNat) = (bytesV l).toArray := by apply Array.ext'; simp [bs, bytesV, byteV]
  unfold newRow newObj markStringish shape freeze
  simp only [bind, pure, Sem.bind, wpH, Question.cut, hshape, get_push_self, hsz]
  generalize hx : q % (2 ^ 63 - l.length) = x
  have hlen : ((bs l).data.map (fun b => Value.int .u8 b.toNat) ++ Array.replicate (l.length + x - l.length) (Value.int .u8 0)).size = l.length + x := by
    rw [hdat]; simp [bytesV_len]
  have hg : (hfreeze (h.push (.cells ((bs l).data.map (fun b => Value.int .u8 b.toNat) ++ Array.replicate (l.length + x - l.length) (Value.int .u8 0)) e (0, 0))) ⟨h.size, l.length + x, none⟩ 1)[h.size]? = some (.cells ((bs l).data.map (fun b => Value.int .u8 b.toNat) ++ Array.replicate (l.length + x - l.length) (Value.int .u8 0)) e (l.length + x, l.length + x + 1)) := by
    unfold hfreeze
    rw [if_neg (by omega), Array.getElem?_modify, if_pos rfl, get_push_self]
    rfl
  rw [hlen]
  refine hk _ _ _ ?_ ?_ ⟨rfl, rfl, _, _, _, .inr ?_, hg, ?_, ?_, ?_⟩ (by omega)
  · refine ⟨?_, fun b hb _ => ?_⟩
    · unfold hfreeze; rw [if_neg (by omega)]; simp
    · unfold hfreeze
      rw [if_neg (by omega), Array.getElem?_modify, if_neg (by simp only; omega), Array.getElem?_push, if_neg (by omega)]
  · rintro b ⟨ad, h1, rfl⟩; cases h1; exact Nat.le_refl _
  · rw [hlen]; exact Nat.le_refl _
  · rw [hlen]; omega
  · rw [hlen, bytesV_len]; omega
  · intro j hj
    rw [hdat]
    rw [Array.getElem?_append_left (by simpa using hj), List.getElem?_toArray, List.getElem?_eq_getElem hj]
end
end Go.Proofs.Ytjelnknmjhceiaa
