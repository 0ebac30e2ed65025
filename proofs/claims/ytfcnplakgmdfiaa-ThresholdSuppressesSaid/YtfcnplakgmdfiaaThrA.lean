/-
  Keys of counters.
-/
import Derived.Test.YtfcnplakgmdfiaaQEq
import Derived.Test.YtfcnplakgmdfiaaG1
namespace Go.Proofs.Ytfcnplakgmdfiaa
set_option linter.unusedSimpArgs false
set_option linter.unusedVariables false
set_option maxRecDepth 20000
open Go
open Go.IntKind (wrap)
structure Ad where
  v6 : Bool
  hi : Int
  lo : Int
deriving DecidableEq
structure Th where
  kind : Int
  by_ : Int
  count : Int
  secs : Int
deriving DecidableEq
structure Key where
  sid : Int
  th : Th
  a : Ad
  b : Ad
deriving DecidableEq
def Key.vals (k : Key) : List Value := [.int .i64 k.sid, .int .i64 k.th.kind, .int .i64 k.th.by_, .int .i64 k.th.count, .int .i64 k.th.secs, .bool k.a.v6, .int .u64 k.a.hi, .int .u64 k.a.lo, .bool k.b.v6, .int .u64 k.b.hi, .int .u64 k.b.lo]
def Key.v (k : Key) : Value := .agg #[.int .i64 k.sid, .int .i64 k.th.kind, .int .i64 k.th.by_, .int .i64 k.th.count, .int .i64 k.th.secs, .bool k.a.v6, .int .u64 k.a.hi, .int .u64 k.a.lo, .bool k.b.v6, .int .u64 k.b.hi, .int .u64 k.b.lo]
theorem key_qt (b : Bool) (a : Key) : qtB Try.prog (Instr.checkKey b 10000 T_threshold_key a.v) = true := by kernel_rfl
section
attribute [local irreducible] Instr.checkKey
theorem key_check (b : Bool) (a : Key) {h : Heap} {K : Unit → Heap → Prop} (hk : K () h) : wpH Try.prog (Instr.checkKey b 10000 T_threshold_key a.v) K h :=
  wpH_check (key_qt b a) hk
end
theorem key_eqB (a b : Key) : eqB Try.prog 10000 T_threshold_key a.v b.v = some (decide (a = b)) := by
  have e : eqB Try.prog 10000 T_threshold_key a.v b.v = some ((a.sid == b.sid) && (((a.th.kind == b.th.kind) && ((a.th.by_ == b.th.by_) && ((a.th.count == b.th.count) && ((a.th.secs == b.th.secs) && true)))) && (((a.a.v6 == b.a.v6) && ((a.a.hi == b.a.hi) && ((a.a.lo == b.a.lo) && true))) && (((a.b.v6 == b.b.v6) && ((a.b.hi == b.b.hi) && ((a.b.lo == b.b.lo) && true))) && true)))) := by
    kernel_rfl
  rw [e]
  obtain ⟨s1, ⟨t1, t2, t3, t4⟩, ⟨a1, a2, a3⟩, ⟨b1, b2, b3⟩⟩ := a
  obtain ⟨s1', ⟨t1', t2', t3', t4'⟩, ⟨a1', a2', a3'⟩, ⟨b1', b2', b3'⟩⟩ := b
  congr 1
  rw [Bool.eq_iff_iff]
  simp only [Bool.and_eq_true, beq_iff_eq, decide_eq_true_eq, Key.mk.injEq, Th.mk.injEq, Ad.mk.injEq, and_true]
theorem key_equal (a b : Key) {h : Heap} {K : Bool → Heap → Prop} (hk : K (decide (a = b)) h) : wpH Try.prog (Op.equal T_threshold_key a.v b.v) K h :=
  wpH_equal (key_eqB a b) hk
theorem key_findAsking (a : Key) : ∀ (es : List (Ent Key)) (i : Nat) {h : Heap} {K : Option (Nat × Value) → Heap → Prop}, K (findE a es i) h → wpH Try.prog (Instr.findAsking T_threshold_key a.v (es.map (mkE Key.v)) i) K h
  | [], _, _, _, hk => hk
  | e :: es, i, h, K, hk => by
    unfold findE at hk
    rw [List.map_cons]
    unfold Instr.findAsking
    simp only [bind]
    rw [wpH_bind]
    refine key_equal a e.1 ?_
    by_cases ha : a = e.1
    · rw [if_pos ha] at hk
      rw [decide_eq_true ha]; exact hk
    · rw [if_neg ha] at hk
      rw [decide_eq_false ha]
      exact key_findAsking a es (i + 1) hk
attribute [local irreducible] Instr.checkKey in
theorem keyT : KeyT Try.prog T_threshold_key Key.v := by
  refine ⟨fun a => ?_, key_check, fun a es {h K} hk => ?_⟩
  · exact same_agg (vs := a.vals) rfl 9999
  · unfold Instr.findKey
    simp only [bind]
    rw [wpH_bind]
    refine wpH_underlying Try.underlying67 ?_
    cases es with
    | nil => exact hk
    | cons e es =>
      simp only [List.map_cons, Instr.findNow]
      exact key_findAsking a (e :: es) 0 hk
end Go.Proofs.Ytfcnplakgmdfiaa
