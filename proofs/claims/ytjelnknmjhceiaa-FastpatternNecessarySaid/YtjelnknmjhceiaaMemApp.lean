/-
  append to a slice that the call owns.
-/
import Derived.Test.YtjelnknmjhceiaaMem
namespace Go.Proofs.Ytjelnknmjhceiaa
set_option linter.unusedSimpArgs false
set_option linter.unusedVariables false
set_option maxRecDepth 20000
open Go

/-- A slice's row, from its head on: the first cells are cs. -/
def OwnC (h : Heap) (a : Option Addr) (cap sz : Nat) (cs : List Value) : Prop :=
  match a with
  | none => cs = [] ∧ cap = 0
  | some ad => ad.off = 0 ∧ ad.spot = none ∧ ∃ ds t fr, frOk ds.size fr ∧ h[ad.block]? = some (.cells ds t fr) ∧ cap * sz ≤ ds.size ∧ cs.length ≤ ds.size ∧ ∀ i (hi : i < cs.length), ds[i]? = some cs[i]
def InA (a : Option Addr) (b : Nat) : Prop := ∃ ad, a = some ad ∧ ad.block = b
theorem OwnC.lt {h : Heap} {a : Option Addr} {cap sz : Nat} {cs : List Value} (ho : OwnC h a cap sz cs) {b : Nat} (hb : InA a b) : b < h.size := by
  obtain ⟨ad, rfl, rfl⟩ := hb
  obtain ⟨_, _, ds, t, fr, _, hg, _⟩ := ho
  exact lt_of_get hg
theorem OwnC.fr {S : Nat → Prop} {h h' : Heap} {a : Option Addr} {cap sz : Nat} {cs : List Value} (ho : OwnC h a cap sz cs) (hf : Fr S h h') (hs : ∀ b, InA a b → ¬ S b) : OwnC h' a cap sz cs := by
  cases a with
  | none => exact ho
  | some ad =>
    obtain ⟨h1, h2, ds, t, fr, hfr, hg, hr⟩ := ho
    exact ⟨h1, h2, ds, t, fr, hfr, hf.get hg (hs _ ⟨ad, rfl, rfl⟩), hr⟩
theorem OwnC.cells {h : Heap} {ad : Addr} {cap sz : Nat} {cs : List Value} (ho : OwnC h (some ad) cap sz cs) : Cells h ad cs := by
  obtain ⟨h1, h2, ds, t, fr, hfr, hg, _, _, hc⟩ := ho
  intro j hj
  obtain ⟨b, o, s⟩ := ad
  simp only at h1 h2 hg
  subst h1 h2
  rw [add_mk, hcell_blk hg, Nat.zero_add]; exact hc j hj
/-- What append's second operand holds. -/
inductive Src (h : Heap) (sz : Nat) : Value → Nat → List Value → Prop
  | str (s : ByteArray) (hs : sz = 1) : Src h sz (.string s) s.size (s.data.toList.map fun b => .int .u8 b.toNat)
  | sl (a : Addr) (m c : Nat) (xs : List Value) (hl : xs.length = m * sz) (hc : Cells h a xs) : Src h sz (.slice (some a) m c) m xs
  | nil (c : Nat) : Src h sz (.slice none 0 c) 0 []
section
variable {P : Program} {h : Heap}
theorem Src.len {sz : Nat} {x : Value} {m : Nat} {xs : List Value} (s : Src h sz x m xs) : xs.length = m * sz := by
  cases s with
  | str s hs => subst hs; simp
  | sl a m c xs hl hc => exact hl
  | nil c => simp
theorem wpH_first {sz : Nat} {x : Value} {m : Nat} {xs : List Value} {K : Array Value → Heap → Prop} (s : Src h sz x m xs) (hk : K xs.toArray h) : wpH P (Builtin.firstCells sz m x) K h := by
  cases s with
  | str s hs =>
    have : (s.extract 0 s.size).data.map (fun b => Value.int .u8 b.toNat) = (s.data.toList.map fun b => Value.int .u8 b.toNat).toArray := by
      have : (s.extract 0 s.size) = s := by simp
      rw [this]
      apply Array.ext'
      simp
    unfold Builtin.firstCells
    simp only [pure, wpH]
    rw [this]; exact hk
  | sl a m c xs hl hc => exact wpH_loadCells hl hc hk
  | nil c => exact hk
theorem wpH_len {sz : Nat} {x : Value} {m : Nat} {xs : List Value} {K : Nat → Heap → Prop} (s : Src h sz x m xs) (hk : K m h) : wpH P (Builtin.lenOf x) K h := by
  cases s <;> exact hk
theorem growBy_le (n : Nat) : ∀ (r c : Nat), Builtin.growBy n r c ≤ c + r * (n + 768) + n := by
  intro r
  induction r with
  | zero => intro c; simp [Builtin.growBy]
  | succ r ih =>
    intro c
    simp only [Builtin.growBy]
    split
    · omega
    · have := ih (c + (c + 768) / 4)
      have h2 : (r + 1) * (n + 768) = r * (n + 768) + (n + 768) := by rw [Nat.succ_mul]
      rw [h2]
      omega
theorem nextcap_le {need cap : Nat} (h : cap < need) : Builtin.nextslicecap need cap ≤ 8 * need + 4000 := by
  unfold Builtin.nextslicecap
  split
  · omega
  · split
    · omega
    · have := growBy_le need 4 cap
      omega
theorem zeroCells_size (z : Array Value) (n : Nat) : (Builtin.zeroCells z n).size = n * z.size := by simp [Builtin.zeroCells]

structure ElemT (P : Program) (sT el : TypeId) (i : TypeInfo) (z : Value) : Prop where
  und : P.underlying sT = some (.slice el)
  info : P.info? el = some i
  zero : i.zero = some z
  size : z.cells.size = i.size
  bytes : 0 < i.bytes
theorem append_own {sT xT ty el : TypeId} {consts : Array Bool} {i : TypeInfo} {z : Value} {d : TypeDesc} (t : ElemT P sT el i z) (hX : P.underlying xT = some d) (hd : ∀ k, d ≠ .int k)
    {a : Option Addr} {n cap m : Nat} {cs xs : List Value} {x : Value} (ho : OwnC h a cap i.size cs) (hn : cs.length = n * i.size) (hnc : n ≤ cap) (s : Src h i.size x m xs) (hv : ∀ v ∈ xs, cellV v = true)
    (hlim : (8 * (n + m) + 4000) * i.bytes ≤ 2 ^ 48) {K : Value → Heap → Prop}
    (hk : ∀ (a' : Option Addr) (cap' : Nat) (h' : Heap), OwnC h' a' cap' i.size (cs ++ xs) → n + m ≤ cap' → Fr (InA a) h h' → (∀ b, InA a' b → InA a b ∨ h.size ≤ b) → K (.slice a' (n + m) cap') h') :
    bltV P .append #[sT, xT] ty consts #[.slice a n cap, x] h K := by
  have hxl := s.len
  unfold bltV builtin
  simp only [bind]
  rw [wpH_bind]
  unfold Builtin.append_
  simp only [List.getElem?_toArray, List.getElem?_cons_zero, List.getElem?_cons_succ, bind]
  rw [wpH_bind]
  refine wpH_underlying t.und ?_
  simp only
  rw [wpH_bind]
  refine wpH_size (by rw [t.info]; rfl) ?_
  have hsz : sizeB P el = i.size := by simp [sizeB, t.info]
  rw [hsz, wpH_bind]
  refine wpH_underlying hX ?_
  have hfalse : (match d with | .int _ => true | _ => false) = false := by
    cases d <;> first | rfl | exact absurd rfl (hd _)
  simp only [pure, Sem.bind, hfalse]
  simp only [Bool.false_eq_true, if_false]
  rw [wpH_bind]
  refine wpH_len s ?_
  split
  case isTrue hle =>
    rw [wpH_bind]
    refine wpH_first s ?_
    cases a with
    | none =>
      obtain ⟨rfl, rfl⟩ := ho
      have hm : m = 0 := by omega
      have hn0 : n = 0 := by omega
      subst hm hn0
      have : xs = [] := by rw [← List.length_eq_zero_iff, hxl]; simp
      subst this
      exact hk none 0 h ⟨rfl, rfl⟩ (by omega) (Fr.refl _ _) (fun b hb => .inl hb)
    | some ad =>
      obtain ⟨h1, h2, ds, ty', fr, hfr, hg, hcap, hlen, hc⟩ := ho
      obtain ⟨b, o, sp⟩ := ad
      simp only at h1 h2 hg
      subst h1 h2
      simp only
      rw [wpH_bind]
      have hadd : ∀ j, (Addr.add (Addr.add ⟨b, 0, none⟩ (n * i.size)) j) = ⟨b, n * i.size + j, none⟩ := fun j => by rw [add_mk, add_mk, Nat.zero_add]
      have hfit : n * i.size + xs.length ≤ ds.size := by
        have : (n + m) * i.size ≤ cap * i.size := Nat.mul_le_mul_right _ hle
        rw [Nat.add_mul] at this
        omega
      refine wpH_store hadd xs 0 ds h hg hfr hv (by omega) ?_
      simp only [Nat.add_zero, pure, wpH, nxK]
      refine hk _ _ _ ⟨rfl, rfl, _, ty', fr, by rw [splice_size]; exact hfr, get_set hg, ?_, ?_, ?_⟩ hle (Fr.set _ _ ⟨_, rfl, rfl⟩) (fun b hb => .inl hb)
      · rw [splice_size]; exact hcap
      · rw [splice_size, List.length_append]; omega
      · intro j hj
        rw [splice_get _ _ _ hfit]
        rw [List.length_append] at hj
        by_cases hjn : j < cs.length
        · rw [if_neg (by omega), hc j hjn, List.getElem_append_left hjn]
        · rw [if_pos (by omega), List.getElem_append_right (by omega), List.getElem?_eq_getElem (by omega)]
          congr 2; omega
  case isFalse hgt =>
    have hgt' : cap < n + m := by omega
    rw [wpH_bind]
    have hp : (2 : Nat) ^ 48 = 281474976710656 := by decide
    have hb1 : 1 ≤ i.bytes := t.bytes
    have hneed : 8 * (n + m) + 4000 ≤ 2 ^ 48 := Nat.le_trans (Nat.le_mul_of_pos_right _ t.bytes) hlim
    refine wpH_info t.info ?_
    have c1 : ¬ (((n + m : Nat) : Int) > IntKind.i64.max ∧ (False ∨ i.bytes = 0)) := by
      rintro ⟨_, h | h⟩
      · exact h
      · omega
    rw [if_neg c1]
    rw [wpH_bind]
    refine wpH_info t.info ?_
    have c2 : ¬ (Builtin.nextslicecap (n + m) cap * i.bytes > 2 ^ 48) := by
      have := Nat.mul_le_mul_right i.bytes (nextcap_le hgt')
      omega
    rw [if_neg c2]
    rw [wpH_bind]
    unfold choose
    refine ⟨fun q => ?_, fun hq => by simp [Question.forced] at hq⟩
    simp only [wpH, Question.cut]
    rw [wpH_bind]
    refine wpH_info t.info ?_
    have room : ∀ {K : Unit → Heap → Prop} {b : Nat} {h : Heap}, K () h → wpH P (askRoom b) K h := fun hk => by
      unfold askRoom; split <;> exact hk
    rw [wpH_bind]
    refine room ?_
    rw [wpH_bind]
    have sold : Src h i.size (.slice a n cap) n cs := by
      cases a with
      | none =>
        obtain ⟨rfl, rfl⟩ := ho
        have : n = 0 := by omega
        subst this; exact .nil _
      | some ad => exact .sl ad n cap cs hn ho.cells
    refine wpH_first sold ?_
    rw [wpH_bind]
    refine wpH_first s ?_
    rw [wpH_bind]
    have zr : ∀ {K : Value → Heap → Prop} {h : Heap}, K z h → wpH P (zeroValue el) K h := fun hk => by
      unfold zeroValue; simp only [bind]; rw [wpH_bind]; refine wpH_info t.info ?_; rw [t.zero]; exact hk
    refine zr ?_
    rw [wpH_bind]
    unfold newRow newObj
    simp only [bind, Sem.bind, wpH, pure, nxK]
    refine hk _ _ _ ⟨rfl, rfl, _, _, (0, 0), .inl rfl, get_push_self, ?_, ?_, ?_⟩ (by omega) (Fr.push _ _ _) (fun b hb => ?_)
    · simp only [Array.size_append, zeroCells_size, t.size]
      simp only [List.size_toArray, hn, hxl]
      rw [← Nat.add_mul, ← Nat.add_mul]
      exact Nat.mul_le_mul_right _ (by omega)
    · simp only [Array.size_append, List.size_toArray, List.length_append]; omega
    · intro j hj
      have hja : j < (cs.toArray ++ xs.toArray).size := by simpa using hj
      rw [Array.getElem?_append_left hja]
      simp only [List.append_toArray, List.getElem?_toArray]
      exact List.getElem?_eq_getElem hj
    · obtain ⟨ad, he, rfl⟩ := hb
      cases he
      exact .inr (Nat.le_refl _)
end
end Go.Proofs.Ytjelnknmjhceiaa
