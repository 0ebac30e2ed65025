/-
  Both tables side by side: the calls.
-/
import Derived.Test.YtfcnplakgmdfiaaThrP
namespace Go.Proofs.Ytfcnplakgmdfiaa
set_option linter.unusedSimpArgs false
set_option linter.unusedVariables false
set_option maxRecDepth 20000
open Go
open Go.IntKind (wrap)
theorem Both.fr {lo n0 N : Nat} {h h' : Heap} {t x : Addr} {T : Int} (B : Both lo n0 N h t x T) (f : Fr (fun b => n0 ≤ b) h h') : Both lo n0 N h' t x T := by
  obtain ⟨okP, okR, r, S, L, RP, RR, p, dj, lt, hl⟩ := B
  exact ⟨okP, okR, r, S, L, RP.fr f (fun b _ h1 h2 => by have := (lt b (.inl h2)).2; omega), RR.fr f (fun b _ h1 h2 => by have := (lt b (.inr h2)).2; omega), p, dj, lt, hl⟩
theorem Both.fr0 {lo n0 N : Nat} {h h' : Heap} {t x : Addr} {T : Int} (f : Fr (fun _ => False) h h') (B : Both lo n0 N h t x T) : Both lo n0 N h' t x T := B.fr (f.mono fun _ h => h.elim)
theorem Both.mono {lo n0 N M : Nat} {h : Heap} {t x : Addr} {T : Int} (B : Both lo n0 N h t x T) (hn : N ≤ M) : Both lo n0 M h t x T := by
  obtain ⟨okP, okR, r, S, L, RP, RR, p, dj, lt, hl⟩ := B
  exact ⟨okP, okR, r, S, L, RP.mono hn, RR, p, dj, lt, hl⟩
theorem Both.x {lo n0 N : Nat} {h : Heap} {t x : Addr} {T : Int} (B : Both lo n0 N h t x T) : lo ≤ x.block ∧ x.block < n0 := by
  obtain ⟨okP, okR, r, S, L, RP, RR, p, dj, lt, hl⟩ := B
  exact lt _ (.inr RR.okx)
theorem Mid.fr0 {lo n0 N : Nat} {h h' : Heap} {t x : Addr} {T T' : Int} {k : Key} {secs c : Int} (f : Fr (fun _ => False) h h') (B : Mid lo n0 N h t x T T' k secs c) : Mid lo n0 N h' t x T T' k secs c := by
  obtain ⟨okP, okR, r, S, L, RP, RR, p, dj, lt, hl⟩ := B
  exact ⟨okP, okR, r, S, L, RP.fr0 f, RR.fr0 f, p, dj, fun b hb => by have := lt b hb; have := f.size; omega, hl⟩
theorem both_new {lo : Nat} {h1 h2 : Heap} {t x : Addr} {r : Nat} (hlo : lo ≤ h1.size) (RP : TabR (fun b => lo ≤ b ∧ b < h1.size) 0 h1 t r 0 []) (f : Fr (fun _ => False) h1 h2) (RR : RefR (fun b => h1.size ≤ b) h2 x 0 []) : Both lo h2.size 0 h2 t x 0 := by
  have z := f.size
  have lx : x.block < h2.size := by obtain ⟨⟨p, cap, ox, _, _⟩, _⟩ := RR; exact ox.lt
  obtain ⟨⟨p, cap, ox, rr, hp⟩, okx⟩ := RR
  refine ⟨_, fun b => h1.size ≤ b ∧ b < h2.size, r, [], [], RP.fr0 f, ⟨⟨p, cap, ox, rr, fun b hb => ⟨(hp b hb).1, (hp b hb).2, rr.own.lt hb⟩⟩, okx, lx⟩, List.Perm.refl _, fun b h1 h2 => by omega, fun b hb => by rcases hb with h | h <;> omega, by simp⟩
theorem both_p [Gh] {lo n0 N : Nat} {h : Heap} {t x : Addr} {T : Int} (B : Both lo n0 N h t x T) (hn0 : n0 ≤ h.size) (hlo : lo ≤ h.size) (hN : N ≤ 2 ^ 39) (at_ sid : Int) (th : Th) (f : Fl) (hcB : countsB th = true) {Q : Value → Heap → Prop}
    (hk : ∀ h' c, Fr (fun b => lo ≤ b ∧ b < n0) h h' → Mid lo n0 (N + 1) h' t x T (timeL T at_) (keyL sid th f) th.secs c → Q (.bool (kindB th (c + 1))) h') :
    CallT Try.prog fn_threshold_Table_Filter #[.pointer (some t), .int .i64 at_, .int .i64 sid, .agg #[.int .i64 th.kind, .int .i64 th.by_, .int .i64 th.count, .int .i64 th.secs], .agg #[.int .i64 f.proto, .bool f.src.v6, .int .u64 f.src.hi, .int .u64 f.src.lo, .bool f.dst.v6, .int .u64 f.dst.hi, .int .u64 f.dst.lo, .int .i64 f.sport, .int .i64 f.dport]] h Q := by
  obtain ⟨okP, okR, r, S, L, RP, RR, p, dj, lt, hl⟩ := B
  have R1 := RP.to (ok' := fun b => okP b ∨ h.size ≤ b) (.inl RP.lt) (.inl RP.lr) (fun c hc => .inl (RP.cp c hc).2.2)
  refine filter_c R1 (by omega) (by omega) (fun b hb => .inr hb) at_ sid th f (fun h => by rw [hcB] at h; cases h) fun _ h' S' f' R' st => ?_
  have nd : ((S.map Ct.tri).map (·.1)).Nodup := by have := RP.keys; rw [List.map_map]; exact this
  have ndL : (L.map (·.1)).Nodup := (p.map _).nodup_iff.1 nd
  have z := f'.size
  rw [curL_perm nd p]
  refine hk h' _ (f'.mono' fun b hl hb => ?_) ⟨fun b => (okP b ∨ h.size ≤ b) ∧ b < h'.size, okR, r, S', L, ?_, ?_, fun L' st' => stepF_perm nd p st st', fun b hb hr => ?_, fun b hb => ?_, fun b hb => lt b (.inr hb), ?_, rfl, by rw [← p.length_eq, List.length_map]; exact hl, ndL, fun e he => ?_, RP.T0⟩
  · rcases hb with h | h
    · exact lt b (.inl h)
    · omega
  · exact R'.to ⟨R'.lt, R'.own.lt⟩ ⟨R'.lr, R'.map.lt⟩ fun c hc => ⟨(R'.cp c hc).2.2, (R'.cts c hc).lt⟩
  · refine RR.fr f' fun b hb h1 h2 => ?_
    rcases h1 with h1 | h1
    · exact dj b h1 h2
    · omega
  · rcases hb.1 with h | h
    · exact dj b h hr
    · have := (lt b (.inr hr)).2; omega
  · refine ⟨?_, hb.2⟩
    rcases hb.1 with h | h
    · exact (lt b (.inl h)).1
    · omega
  · have := stepF_len (by rw [List.length_map]; exact hl) st
    rw [List.length_map] at this; exact this
  · obtain ⟨c, hc, rfl⟩ := List.mem_map.1 (p.mem_iff.2 he)
    obtain ⟨a, b, d, e⟩ := RP.num c hc
    exact ⟨a, b, d, by show c.n ≤ 2 ^ 40; omega⟩
theorem both_p0 [Gh] {lo n0 N : Nat} {h : Heap} {t x : Addr} {T : Int} (B : Both lo n0 N h t x T) (hn0 : n0 ≤ h.size) (hlo : lo ≤ h.size) (hN : N ≤ 2 ^ 39) (at_ sid : Int) (th : Th) (f : Fl) (hcB : countsB th = false) {Q : Value → Heap → Prop}
    (hk : ∀ h', Fr (fun b => lo ≤ b ∧ b < n0) h h' → Both lo n0 N h' t x T → Q (.bool true) h') :
    CallT Try.prog fn_threshold_Table_Filter #[.pointer (some t), .int .i64 at_, .int .i64 sid, .agg #[.int .i64 th.kind, .int .i64 th.by_, .int .i64 th.count, .int .i64 th.secs], .agg #[.int .i64 f.proto, .bool f.src.v6, .int .u64 f.src.hi, .int .u64 f.src.lo, .bool f.dst.v6, .int .u64 f.dst.hi, .int .u64 f.dst.lo, .int .i64 f.sport, .int .i64 f.dport]] h Q := by
  obtain ⟨okP, okR, r, S, L, RP, RR, p, dj, lt, hl⟩ := B
  have R1 := RP.to (ok' := fun b => okP b ∨ h.size ≤ b) (.inl RP.lt) (.inl RP.lr) (fun c hc => .inl (RP.cp c hc).2.2)
  refine filter_c R1 (by omega) (by omega) (fun b hb => .inr hb) at_ sid th f (fun _ h' f' R' => ?_) fun h => by rw [hcB] at h; cases h
  have z := f'.size
  refine hk h' (f'.mono' fun b hl hb => ?_) ⟨okP, okR, r, S, L, ?_, ?_, p, dj, lt, hl⟩
  · rcases hb with h | h
    · exact lt b (.inl h)
    · omega
  · exact R'.to RP.lt RP.lr fun c hc => (RP.cp c hc).2.2
  · refine RR.fr f' fun b hb h1 h2 => ?_
    rcases h1 with h1 | h1
    · exact dj b h1 h2
    · omega
theorem both_r [Gh] {lo n0 N : Nat} {h : Heap} {t x : Addr} {T at_ sid : Int} {th : Th} {f : Fl} {c : Int} (B : Mid lo n0 N h t x T (timeL T at_) (keyL sid th f) th.secs c) (hn0 : n0 ≤ h.size) (hlo : lo ≤ h.size) (hcB : countsB th = true) {Q : Value → Heap → Prop}
    (hk : ∀ h', Fr (fun b => lo ≤ b ∧ b < n0) h h' → Both lo h'.size N h' t x (timeL T at_) → Q (.bool (kindB th (c + 1))) h') :
    CallT Try.prog fn_ref51_Table_Filter #[.pointer (some x), .int .i64 at_, .int .i64 sid, .agg #[.int .i64 th.kind, .int .i64 th.by_, .int .i64 th.count, .int .i64 th.secs], .agg #[.int .i64 f.proto, .bool f.src.v6, .int .u64 f.src.hi, .int .u64 f.src.lo, .bool f.dst.v6, .int .u64 f.dst.hi, .int .u64 f.dst.lo, .int .i64 f.sport, .int .i64 f.dport]] h Q := by
  obtain ⟨okP, okR, r, S, L, RP, RR, p, dj, ltP, ltR, hl, hc, hlL, nd, num, hT⟩ := B
  have RR1 : RefR (fun b => okR b ∨ h.size ≤ b) h x T L := by
    obtain ⟨⟨q, cap, ox, rr, hp⟩, okx⟩ := RR
    exact ⟨⟨q, cap, ox, rr, fun b hb => ⟨(hp b hb).1, .inl (hp b hb).2⟩⟩, .inl okx⟩
  have okx := RR.okx
  refine rFilter_c RR1 (fun b hb => .inr hb) hT num nd (by omega) at_ sid th f (fun h => by rw [hcB] at h; cases h) fun _ h' L' f' R' st => ?_
  have z := f'.size
  rw [hc]
  refine hk h' (f'.mono fun b hb => by rw [hb]; exact ltR _ okx) ⟨okP, fun b => (okR b ∨ h.size ≤ b) ∧ b < h'.size, r, S, L', ?_, ?_, p L' st, fun b hb hr => ?_, fun b hb => ?_, hl⟩
  · refine RP.fr f' fun b hb h1 h2 => ?_
    rw [h1] at h2; exact dj _ h2 okx
  · obtain ⟨⟨q, cap, ox, rr, hp⟩, okx'⟩ := R'
    exact ⟨⟨q, cap, ox, rr, fun b hb => ⟨(hp b hb).1, (hp b hb).2, rr.own.lt hb⟩⟩, okx', ox.lt⟩
  · rcases hr.1 with h | h
    · exact dj b hb h
    · have := (ltP b hb).2; omega
  · rcases hb with h | h
    · have := ltP b h; omega
    · refine ⟨?_, h.2⟩
      rcases h.1 with h | h
      · exact (ltR b h).1
      · omega
end Go.Proofs.Ytfcnplakgmdfiaa
