/-
  The law ContentExact.
-/
import Derived.Test.YtkmommchanjobaaContL
import Derived.Test.YtkmommchanjobaaContK
import Derived.Deep.Slices
namespace Go.Proofs.Ytkmommchanjobaa
set_option linter.unusedSimpArgs false
set_option linter.unusedVariables false
open Go
def mOk (r : Res) : Bool := if r.2.2 then false else r.1.isSome
def mEnd (r : Res) : Int := if r.2.2 then 0 else r.1.getD 0
def mN (r : Res) (N : Nat) : Int := if r.2.2 then (N : Int) else ((N - r.2.1 : Nat) : Int)
def mE (r : Res) : Int := if r.2.2 then 16 else 0
theorem matchV_eq (r : Res) (N : Nat) : matchV r N = .tuple #[.bool (mOk r), .int .i64 (mEnd r), .int .i64 (mN r N), .int .i64 (mE r)] := by
  unfold matchV mOk mEnd mN mE; cases r.2.2 <;> simp
def caseV (La : Option Addr) (ln lc : Nat) (Ta : Option Addr) (tn tc : Nat) (d : List UInt8) (bud : Int) : List Value := [.slice La ln lc, .slice Ta tn tc, .string (bs d), .int .i64 bud]
theorem ContentExact_c [Gh] {La Ta : Option Addr} {lc tc : Nat} {cs : List Cn} {ts : List Ts} (d : List UInt8) (bud : Int) {h : Heap} (rc : RdC (fun _ => False) h La cs) (rt : RdT (fun _ => False) h Ta ts) {Q : Value → Heap → Prop} (hk : ∀ h', Fr (fun _ => False) h h' → Q (.bool true) h') :
    CallT Try.prog fn_law44_ContentExact #[.agg (caseV La cs.length lc Ta ts.length tc d bud).toArray] h Q := by
  refine law44_ContentExact_s La cs.length lc Ta ts.length tc (bs d) bud ?_
  simp only [law44_ContentExact_b3, law44_ContentExact_b6, law44_ContentExact_b5, law44_ContentExact_b4, law44_ContentExact_b2, law44_ContentExact_b1, law44_ContentExact_v]
  refine alV_mk ?_
  have fp := Fr.push (fun _ => False) h (.cells #[.slice La cs.length lc, .slice Ta ts.length tc, .string (bs d), .int .i64 bud] 38 (0, 0))
  have hb : (h.push (.cells #[.slice La cs.length lc, .slice Ta ts.length tc, .string (bs d), .int .i64 bud] 38 (0, 0)))[h.size]? = some (.cells #[.slice La cs.length lc, .slice Ta ts.length tc, .string (bs d), .int .i64 bud] 38 (0, 0)) := get_push_self
  have rc1 := rc.fr fp fun _ h => h
  have rt1 := rt.fr fp fun _ h => h
  generalize h.push (.cells #[.slice La cs.length lc, .slice Ta ts.length tc, .string (bs d), .int .i64 bud] 38 (0, 0)) = h1 at *
  have wake : ∀ h', Fr (fun _ => False) h1 h' → CallT Try.prog fn_law44_awake #[] h' fun v h2 => ∃ t : Bool, v = Value.bool t ∧ Q (Value.bool t) h2 :=
    fun h' f => awake_c fun h3 f3 => ⟨_, rfl, hk _ ((fp.trans f).trans f3)⟩
  refine ldL_mk (p := La) (n := cs.length) (c := lc) (by rw [hcell_blk hb]; rfl) ?_
  refine ldL_mk (p := Ta) (n := ts.length) (c := tc) (by rw [add_mk, hcell_blk hb]; rfl) ?_
  refine ldS_mk (by rw [add_mk, hcell_blk hb]; rfl) ?_
  refine sound_c rc1 rt1 fun res hres => ⟨_, rfl, ?_⟩
  cases res with
  | false => rw [if_pos (by rfl)]; exact wake _ (Fr.refl _ _)
  | true =>
    rw [if_neg (by simp)]
    have S := hres rfl
    have h6c := S.c
    have h6t := S.t
    have h6d := S.d
    refine ldI_mk (by rw [add_mk, hcell_blk hb]; rfl) ?_
    by_cases hbud : bud > 20000
    · rw [if_pos (by simpa using hbud)]; exact wake _ (Fr.refl _ _)
    rw [if_neg (by simpa using hbud)]
    refine ldL_mk (p := La) (n := cs.length) (c := lc) (by rw [hcell_blk hb]; rfl) ?_
    refine ldL_mk (p := Ta) (n := ts.length) (c := tc) (by rw [add_mk, hcell_blk hb]; rfl) ?_
    refine ldS_mk (by rw [add_mk, hcell_blk hb]; rfl) (ldI_mk (by rw [add_mk, hcell_blk hb]; rfl) ?_)
    refine Match_c (by omega) (by omega) (by omega) S.okc S.okt bud (by omega) rc1 rt1 fun h2 f2 => ⟨_, _, _, _, matchV_eq _ _, ?_⟩
    have hb2 := f2.get hb id
    refine ldL_mk (p := La) (n := cs.length) (c := lc) (by rw [hcell_blk hb2]; rfl) ?_
    refine ldL_mk (p := Ta) (n := ts.length) (c := tc) (by rw [add_mk, hcell_blk hb2]; rfl) ?_
    refine ldS_mk (by rw [add_mk, hcell_blk hb2]; rfl) (ldI_mk (by rw [add_mk, hcell_blk hb2]; rfl) ?_)
    refine rMatch_c (by omega) (by omega) (by omega) S.okc S.okt bud (by omega) (rc1.fr f2 fun _ h => h) (rt1.fr f2 fun _ h => h) fun h3 f3 => ⟨_, _, _, _, matchV_eq _ _, ?_⟩
    rw [if_pos (by simp), if_pos (by simp), if_pos (by simp), if_pos (by simp)]
    exact wake _ (f2.trans f3)
section
open Go.ChangeShapes Go.WideShapes Go.ChangeAt Go.RowKit
variable {H : Type} {enc : TypeId × Value → H} {w : World} {fuel : Nat} {cs : List Value} {x : DataW H × List MemPlace}
theorem cells26 : Try.prog.cellsOf 26 = 1 := by kernel_rfl
theorem cells35 : Try.prog.cellsOf 35 = 1 := by kernel_rfl
theorem cells38 : Try.prog.cellsOf 38 = 4 := by kernel_rfl
theorem cnOf {a : Addr} {vs : List Value} {c : Cn} (h : w.cells? 0 a 7 = some vs) (hv : vs = cnV c) : CnAt w.heap a c := by
  obtain ⟨_, hlen, hcell⟩ := World.cells?_some h
  subst hv
  have e : ∀ k (hk : k < 7), Go.Proofs.Ytkmommchanjobaa.hcell w.heap (a.add k) = (cnV c)[k]? := fun k hk => hcell k hk
  exact ⟨e 0 (by omega), e 1 (by omega), e 2 (by omega), e 3 (by omega), e 4 (by omega), e 5 (by omega), e 6 (by omega)⟩
theorem tsOf {a : Addr} {vs : List Value} {c : Ts} (h : w.cells? 0 a 7 = some vs) (hv : vs = tsV c) : TsAt w.heap a c := by
  obtain ⟨_, hlen, hcell⟩ := World.cells?_some h
  subst hv
  have e : ∀ k (hk : k < 7), Go.Proofs.Ytkmommchanjobaa.hcell w.heap (a.add k) = (tsV c)[k]? := fun k hk => hcell k hk
  exact ⟨e 0 (by omega), e 1 (by omega), e 2 (by omega), e 3 (by omega), e 4 (by omega), e 5 (by omega), e 6 (by omega)⟩
theorem openSliceC {v : Value} (h : DataW.trod enc Try.prog w 0 (fun _ => true) true fuel 26 [v] = some x) : ∃ (a : Option Addr) (cap : Nat) (cs : List Cn), v = .slice a cs.length cap ∧ RdC (fun _ => False) w.heap a cs := by
  rcases Go.Deep.open_slice Try.underlying26 h with ⟨hcs, _⟩ | ⟨a, len, cap, m, n, D, Pl, hcs, _, hl, _, hm, _, hcell⟩
  · exact ⟨none, 0, [], List.head_eq_of_cons_eq hcs, fun i hi => absurd hi (Nat.not_lt_zero _)⟩
  · have hv : v = .slice (some a) len cap := List.head_eq_of_cons_eq hcs
    simp only [if_true] at hm
    have ex : ∀ i, ∃ c : Cn, i < len → CnAt w.heap (a.add (i * 7)) c := fun i => by
      by_cases hi : i < len
      · obtain ⟨cs', h1, h2⟩ := hcell i (by omega)
        rw [cells23] at h1
        obtain ⟨c, hc⟩ := openCn h2
        exact ⟨c, fun _ => cnOf h1 hc⟩
      · exact ⟨⟨[], false, false, false, 0, 0, false⟩, fun h => absurd h hi⟩
    obtain ⟨f, hf⟩ := Classical.axiomOfChoice ex
    refine ⟨some a, cap, (List.range len).map f, by rw [hv]; simp, fun i hi => ⟨a, rfl, id, ?_⟩⟩
    rw [List.getElem_map, List.getElem_range]
    exact hf i (by simpa using hi)
theorem openSliceT {v : Value} (h : DataW.trod enc Try.prog w 0 (fun _ => true) true fuel 35 [v] = some x) : ∃ (a : Option Addr) (cap : Nat) (cs : List Ts), v = .slice a cs.length cap ∧ RdT (fun _ => False) w.heap a cs := by
  rcases Go.Deep.open_slice Try.underlying35 h with ⟨hcs, _⟩ | ⟨a, len, cap, m, n, D, Pl, hcs, _, hl, _, hm, _, hcell⟩
  · exact ⟨none, 0, [], List.head_eq_of_cons_eq hcs, fun i hi => absurd hi (Nat.not_lt_zero _)⟩
  · have hv : v = .slice (some a) len cap := List.head_eq_of_cons_eq hcs
    simp only [if_true] at hm
    have ex : ∀ i, ∃ c : Ts, i < len → TsAt w.heap (a.add (i * 7)) c := fun i => by
      by_cases hi : i < len
      · obtain ⟨cs', h1, h2⟩ := hcell i (by omega)
        rw [cells34] at h1
        obtain ⟨c, hc⟩ := openTs h2
        exact ⟨c, fun _ => tsOf h1 hc⟩
      · exact ⟨⟨0, 0, 0, 0, false, false, false⟩, fun h => absurd h hi⟩
    obtain ⟨f, hf⟩ := Classical.axiomOfChoice ex
    refine ⟨some a, cap, (List.range len).map f, by rw [hv]; simp, fun i hi => ⟨a, rfl, id, ?_⟩⟩
    rw [List.getElem_map, List.getElem_range]
    exact hf i (by simpa using hi)
theorem openCase (h : DataW.trod enc Try.prog w 0 (fun _ => true) true fuel 38 cs = some x) : ∃ (La : Option Addr) (lc : Nat) (Ta : Option Addr) (tc : Nat) (ls : List Cn) (ts : List Ts) (d : List UInt8) (bud : Int),
    cs = caseV La ls.length lc Ta ts.length tc d bud ∧ RdC (fun _ => False) w.heap La ls ∧ RdT (fun _ => False) w.heap Ta ts ∧ (Lit.int .i64 bud).wf = true := by
  obtain ⟨xs, n, rfl, hx, hl, hxl, hf⟩ := DataW.trod_struct Try.underlying38 h
  rw [cells38] at hl
  match xs, hxl, cs, hl with
  | [y0, y1, y2, y3], _, [v0, v1, v2, v3], _ =>
    have g0 : DataW.trod enc Try.prog w 0 (fun _ => true) true n 26 (([v0, v1, v2, v3].drop 0).take (Try.prog.cellsOf 26)) = some y0 := hf 0 _ rfl
    have g1 : DataW.trod enc Try.prog w 0 (fun _ => true) true n 35 (([v0, v1, v2, v3].drop 1).take (Try.prog.cellsOf 35)) = some y1 := hf 1 _ rfl
    have g2 : DataW.trod enc Try.prog w 0 (fun _ => true) true n 9 (([v0, v1, v2, v3].drop 2).take (Try.prog.cellsOf 9)) = some y2 := hf 2 _ rfl
    have g3 : DataW.trod enc Try.prog w 0 (fun _ => true) true n 3 (([v0, v1, v2, v3].drop 3).take (Try.prog.cellsOf 3)) = some y3 := hf 3 _ rfl
    rw [cells26] at g0
    rw [cells35] at g1
    rw [cells9] at g2
    rw [cells3] at g3
    obtain ⟨La, lc, ls, u0, rc⟩ := openSliceC (v := v0) g0
    obtain ⟨Ta, tc, ts, u1, rt⟩ := openSliceT (v := v1) g1
    obtain ⟨s, e2, _⟩ := DataW.trod_string Try.underlying9 g2
    obtain ⟨n3, e3, _, hw⟩ := DataW.trod_int Try.underlying3 g3
    have u2 : v2 = .string s := List.head_eq_of_cons_eq e2
    have u3 : v3 = .int .i64 n3 := List.head_eq_of_cons_eq e3
    obtain ⟨d, hd⟩ := bs_surj s
    refine ⟨La, lc, Ta, tc, ls, ts, d, n3, ?_, rc, rt, hw⟩
    rw [u0, u1, u2, u3, hd]; rfl
end
end Go.Proofs.Ytkmommchanjobaa
