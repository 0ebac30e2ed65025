/-
  Bytes as a string; a string as bytes.
-/
import Derived.Test.YtjelnknmjhceiaaMemApp
namespace Go.Proofs.Ytjelnknmjhceiaa
set_option linter.unusedSimpArgs false
set_option linter.unusedVariables false
set_option maxRecDepth 20000
open Go
def byteV (b : UInt8) : Value := .int .u8 b.toNat
def bytesV (l : List UInt8) : List Value := l.map byteV
theorem bytesV_len (l : List UInt8) : (bytesV l).length = l.length := by simp [bytesV]
theorem bytesV_cellV (l : List UInt8) : ∀ v ∈ bytesV l, cellV v = true := by
  intro v hv; obtain ⟨b, _, rfl⟩ := List.mem_map.1 hv; rfl
section
variable {P : Program} {h : Heap}
theorem wpH_bytesLoop {K : ByteArray → Heap → Prop} : ∀ (l : List UInt8) (s : ByteArray), K ⟨s.data ++ l.toArray⟩ h →
    wpH P (forIn (bytesV l) s fun c s => do
      let .int .u8 n := c | stuck "bytesToString: byte expected"
      pure (ForInStep.yield (s.push (UInt8.ofNat n.toNat)))) K h
  | [], s, hk => by simpa [bytesV, pure, wpH] using hk
  | b :: l, s, hk => by
    simp only [bytesV, List.map_cons, byteV]
    rw [List.forIn_cons]
    simp only [bind, pure, Sem.bind]
    have := wpH_bytesLoop l (s.push (UInt8.ofNat b.toNat)) (K := K) (by
      have e : (UInt8.ofNat b.toNat) = b := by simp
      rw [e]
      have : (s.push b).data ++ l.toArray = s.data ++ (b :: l).toArray := by
        simp [ByteArray.push]
      rw [this]; exact hk)
    simpa [bytesV, byteV, bind, pure, Sem.bind] using this
theorem conv_bytes {sT dT e : TypeId} (hs : P.underlying sT = some (.slice e)) (hd : P.underlying dT = some .string) (he : P.underlying e = some (.int .u8)) {a : Option Addr} {n c : Nat} {l : List UInt8}
    (hl : l.length = n) (hc : ∀ ad, a = some ad → Cells h ad (bytesV l)) (hn : a = none → l = []) {K : Value → Heap → Prop} (hk : K (.string ⟨l.toArray⟩) h) : convV P sT dT (.slice a n c) h K := by
  unfold convV convert
  simp only [bind]
  rw [wpH_bind]; refine wpH_underlying hs ?_
  rw [wpH_bind]; refine wpH_underlying hd ?_
  simp only
  rw [wpH_bind]; refine wpH_underlying he ?_
  simp only
  unfold Conv.bytesToString
  cases a with
  | none =>
    have := hn rfl; subst this
    exact hk
  | some ad =>
    simp only [bind]
    rw [wpH_bind]
    refine wpH_loadCells (vs := bytesV l) (by rw [bytesV_len, hl]) (hc ad rfl) ?_
    rw [wpH_bind]
    rw [← Array.forIn_toList]
    refine wpH_mono _ ?_ (wpH_bytesLoop (K := fun s h' => K (.string s) h') l ByteArray.empty (by
      have e : ByteArray.empty.data ++ l.toArray = l.toArray := Array.empty_append
      rw [e]; exact hk))
    intro s h' hk'; exact hk'
end
end Go.Proofs.Ytjelnknmjhceiaa
