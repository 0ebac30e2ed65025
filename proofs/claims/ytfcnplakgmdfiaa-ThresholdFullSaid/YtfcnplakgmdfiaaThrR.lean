/-
  Both tables, when a threshold does not count.
-/
import Derived.Test.YtfcnplakgmdfiaaThrQ
namespace Go.Proofs.Ytfcnplakgmdfiaa
set_option linter.unusedSimpArgs false
set_option linter.unusedVariables false
set_option maxRecDepth 20000
open Go
open Go.IntKind (wrap)
theorem both_r0 [Gh] {lo n0 N : Nat} {h : Heap} {t x : Addr} {T : Int} (B : Both lo n0 N h t x T) (hN : N ≤ 2 ^ 40) (at_ sid : Int) (th : Th) (f : Fl) (hcB : countsB th = false) {Q : Value → Heap → Prop}
    (hk : ∀ h', Fr (fun _ => False) h h' → Both lo n0 N h' t x T → Q (.bool true) h') :
    CallT Try.prog fn_ref51_Table_Filter #[.pointer (some x), .int .i64 at_, .int .i64 sid, .agg #[.int .i64 th.kind, .int .i64 th.by_, .int .i64 th.count, .int .i64 th.secs], .agg #[.int .i64 f.proto, .bool f.src.v6, .int .u64 f.src.hi, .int .u64 f.src.lo, .bool f.dst.v6, .int .u64 f.dst.hi, .int .u64 f.dst.lo, .int .i64 f.sport, .int .i64 f.dport]] h Q := by
  have B0 := B
  obtain ⟨okP, okR, r, S, L, RP, RR, p, dj, lt, hl⟩ := B
  have nd : ((S.map Ct.tri).map (·.1)).Nodup := by have := RP.keys; rw [List.map_map]; exact this
  have RR1 : RefR (fun b => okR b ∨ h.size ≤ b) h x T L := by
    obtain ⟨⟨q, cap, ox, rr, hp⟩, okx⟩ := RR
    exact ⟨⟨q, cap, ox, rr, fun b hb => ⟨(hp b hb).1, .inl (hp b hb).2⟩⟩, .inl okx⟩
  refine rFilter_c RR1 (fun b hb => .inr hb) RP.T0 (fun e he => ?_) ((p.map _).nodup_iff.1 nd) (by rw [← p.length_eq, List.length_map]; omega) at_ sid th f (fun _ h' f' _ => hk h' f' (B0.fr0 f')) fun h => by rw [hcB] at h; cases h
  obtain ⟨c, hc, rfl⟩ := List.mem_map.1 (p.mem_iff.2 he)
  obtain ⟨a, b, d, e⟩ := RP.num c hc
  exact ⟨a, b, d, by show c.n ≤ 2 ^ 40; omega⟩
end Go.Proofs.Ytfcnplakgmdfiaa
