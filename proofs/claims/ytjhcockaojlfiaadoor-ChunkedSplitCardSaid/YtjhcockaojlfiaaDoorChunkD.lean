/-
  The program's Feed.
-/
import Derived.Test.YtjhcockaojlfiaaDoorChunkC
namespace Go.Proofs.YtjhcockaojlfiaaDoor
set_option linter.unusedSimpArgs false
set_option linter.unusedVariables false
set_option maxRecDepth 20000
open Go
open Go.IntKind (wrap)
def FeedR.v (r : FeedR) : Value := .tuple #[.string (bs r.data), .string (bs r.left), .bool r.over, .int .i64 r.err]
def strAt (h : Heap) (a : Addr) : Nat := match hcell h a with | some (.string b) => b.size | _ => 0
theorem strAt_own {h : Heap} {a : Addr} {s : List UInt8} (o : Own h a [.string (bs s)] T_string) : strAt h a = s.length := by
  unfold strAt; rw [o.cells.at0 rfl]; exact bs_size s
theorem bnil : (⟨#[]⟩ : ByteArray) = bs [] := rfl
theorem feedloop_c [Gh] {h0 : Heap} {a bo bS bd : Addr} {d0 : Dec} {s0 out0 : List UInt8} {h : Heap} (I : FI h0 a bo bS bd h d0 s0 out0) (ok : d0.ok) (n5 : d0.st ≠ 5) {Q : Value → Heap → Prop}
    (hk : ∀ h', Fr (fun b => b = a.block) h0 h' → OwnD h' a (feedB s0 d0 out0).d → Q (feedB s0 d0 out0).v h') :
    LoopV (fun (s : Unit) h Kn => chunked_Decoder_Feed_l1 bd bS bo bo bS bd Q h Kn) () h := by
  refine LoopV.mk (fun _ h' => ∃ d s out, FI h0 a bo bS bd h' d s out ∧ d.ok ∧ d.st ≠ 5 ∧ feedB s0 d0 out0 = feedB s d out) (fun _ h' => strAt h' bS) ⟨_, _, _, I, ok, n5, rfl⟩ ?_
  rintro - h1 ⟨d, s, out, I, ok, n5, hf⟩
  rw [hf] at hk
  rw [strAt_own I.os]
  unfold chunked_Decoder_Feed_l1
  have la := I.la
  have lds := I.ld
  have lss := I.ls
  have los := I.lo
  refine ldS_mk (I.os.cells.at0 rfl) ?_
  rw [bs_toList, bnil, bs_toList]
  cases s with
  | nil =>
    rw [if_neg (by simp)]
    unfold chunked_Decoder_Feed_b2
    obtain ⟨p, c, hc, o1, oc, hp⟩ := I.oo
    refine ldL_mk (o1.cells.at0 rfl) (conv8 oc ⟨_, rfl, ?_⟩)
    exact hk h1 I.fr I.od
  | cons x s =>
    rw [if_pos (by rfl)]
    refine ldP_mk (I.opd.cells.at0 rfl) (nn_mk (ldI_mk (I.od.cells.at0 rfl) ?_))
    refine ifE (fun (e : (d.st : Int) = 2) => ?_) fun (e : (d.st : Int) ≠ 2) => ?_
    · have e : d.st = 2 := by omega
      have ok5 := ok.2.2.2.2.1 e
      refine ldP_mk (I.opd.cells.at0 rfl) (nn_mk (ldI_mk (I.od.cells.at rfl) (ldS_mk (I.os.cells.at0 rfl) ?_)))
      rw [bs_size]
      refine take_c I ok (min d.sz (x :: s).length) (by split <;> omega) (Nat.min_le_right ..) (Nat.min_le_left ..) fun h2 I2 => ⟨rfl, ?_⟩
      have hn : 0 < min d.sz (x :: s).length := by simp only [List.length_cons]; omega
      have hn2 : min d.sz (x :: s).length ≤ d.sz := Nat.min_le_left ..
      have hn3 : min d.sz (x :: s).length ≤ (x :: s).length := Nat.min_le_right ..
      generalize min d.sz (x :: s).length = n at *
      have ft := feedB_take n (x :: s) d out e hn hn2 hn3
      have eo := eat_ok ok e n hn2
      refine ldP_mk (I2.opd.cells.at0 rfl) (nn_mk (ldI_mk (I2.od.cells.at rfl) ?_))
      refine ifE (fun (e2 : ((d.sz - n : Nat) : Int) = 0) => ?_) fun (e2 : ((d.sz - n : Nat) : Int) ≠ 0) => ?_
      · refine ldP_mk (I2.opd.cells.at0 rfl) (nn_mk ?_)
        refine st1_own0 I2.od (by simp [Dec.vals]) rfl fun h3 f3 s3 od3 => ?_
        rw [if_pos (by omega)] at ft eo
        obtain ⟨p, c, hc, o1, oc, hp⟩ := I2.oo
        have I3 : FI h0 a bo bS bd h3 { d with sz := d.sz - n, st := 3 } ((x :: s).drop n) (out ++ (x :: s).take n) :=
          ⟨I2.fr.trans f3, la, lds, lss, los, od3, ⟨p, c, hc, o1.fr f3 (by omega), oc.fr f3 (fun b hb => by have := hp b hb; omega), hp⟩, I2.os.fr f3 (by omega), I2.opd.fr f3 (by omega), I2.lim⟩
        refine ⟨⟨_, _, _, I3, eo, by simp, hf.trans ft⟩, ?_⟩
        rw [strAt_own I3.os, List.length_drop]; omega
      · rw [if_neg (by omega)] at ft eo
        have e4 : ({ d with sz := d.sz - n } : Dec) = { d with sz := d.sz - n, st := 2 } := by rw [e]
        rw [e4] at I2
        refine ⟨⟨_, _, _, I2, eo, by simp, hf.trans ft⟩, ?_⟩
        rw [strAt_own I2.os, List.length_drop]; omega
    · have e : d.st ≠ 2 := by omega
      refine ldP_mk (I.opd.cells.at0 rfl) (ldS_mk (I.os.cells.at0 rfl) ?_)
      refine idxS_bs _ _ _ (by omega) (by simp only [List.length_cons]; omega) ?_
      have ex : (x :: s).getD (Int.toNat 0) 0 = x := rfl
      rw [ex]
      rw [feedB, if_neg e] at hk hf
      have sok := stepD_ok ok e (c := x.toNat)
      refine step_c I.od ok x fun h2 f2 s2 od2 => ⟨_, rfl, ?_⟩
      generalize stepD d x.toNat = r at *
      obtain ⟨er, d2⟩ := r
      simp only at *
      have os2 := I.os.fr f2 (by omega)
      have opd2 := I.opd.fr f2 (by omega)
      obtain ⟨p, c, hc, o1, oc, hp⟩ := I.oo
      have o2 := o1.fr f2 (by omega)
      have oc2 := oc.fr f2 (fun b hb => by have := hp b hb; omega)
      refine ldS_mk (os2.cells.at0 rfl) (slFrom 1 rfl (by simp) ?_)
      have ed : (x :: s).drop 1 = s := rfl
      rw [ed]
      refine st1_own0 os2 (by simp) rfl fun h3 f3 s3 os3 => ?_
      have os3 : Own h3 bS [.string (bs s)] T_string := os3
      have opd3 := opd2.fr f3 (by omega)
      have od3 := od2.fr f3 (by omega)
      have o3 := o2.fr f3 (by omega)
      have oc3 := oc2.fr f3 (fun b hb => by have := hp b hb; omega)
      have f03 : Fr (fun b => b = a.block) h0 h3 := (I.fr.trans f2).tr f3 fun b hb hi => by omega
      refine ifNe (fun (e2 : (er : Int) ≠ 0) => ?_) fun (e2 : (er : Int) = 0) => ?_
      · rw [if_pos (by omega)] at hk
        refine ldP_mk (opd3.cells.at0 rfl) (nn_mk ?_)
        refine st1_own0 od3 (by simp [Dec.vals]) rfl fun h4 f4 s4 od4 => ?_
        refine ldL_mk ((o3.fr f4 (by omega)).cells.at0 rfl) (conv8 (oc3.fr f4 (fun b hb => by have := hp b hb; omega)) ⟨_, rfl, ?_⟩)
        exact hk h4 (f03.trans f4) od4
      · have e2 : er = 0 := by omega
        rw [if_neg (not_not_intro e2)] at hk hf
        refine ldP_mk (opd3.cells.at0 rfl) (nn_mk (ldI_mk (od3.cells.at0 rfl) ?_))
        refine ifE (fun (e5 : (d2.st : Int) = 5) => ?_) fun (e5 : (d2.st : Int) ≠ 5) => ?_
        · rw [if_pos (by omega)] at hk
          refine ldL_mk (o3.cells.at0 rfl) (ldS_mk (os3.cells.at0 rfl) (conv8 oc3 ⟨_, rfl, ldS_mk (os3.cells.at0 rfl) rfl, ?_⟩))
          exact hk h3 f03 od3
        · rw [if_neg (by omega)] at hk hf
          have hl := I.lim
          simp only [List.length_cons] at hl
          have I3 : FI h0 a bo bS bd h3 d2 s out := ⟨f03, la, lds, lss, los, od3, ⟨p, c, hc, o3, oc3, hp⟩, os3, opd3, by omega⟩
          refine ⟨⟨_, _, _, I3, sok e2, by omega, hf⟩, ?_⟩
          rw [strAt_own os3]; simp
theorem Feed_c [Gh] {h : Heap} {a : Addr} {d : Dec} (o : OwnD h a d) (fine : d.fine) (s : List UInt8) (lim : s.length ≤ 2 ^ 40) {Q : Value → Heap → Prop}
    (hk : ∀ h', Fr (fun b => b = a.block) h h' → OwnD h' a (feed d s).d → Q (feed d s).v h') : CallT Tryd.prog fn_chunked_Decoder_Feed #[.pointer (some a), .string (bs s)] h Q := by
  apply chunked_Decoder_Feed_s
  unfold chunked_Decoder_Feed_v
  refine al_mk (vs := [.pointer (some a)]) fun bd h1 f1 e1 o1 => ?_
  refine al_mk (vs := [.string (bs s)]) fun bS h2 f2 e2 o2 => ?_
  have la := o.lt
  have ed := o1.lt
  have o1 := o1.fr0 f2
  have f12 := f1.trans f2
  have od := o.fr0 f12
  have z1 := f1.size
  refine ldP_mk (o1.cells.at0 rfl) ?_
  rw [if_neg (by simp)]
  refine ldP_mk (o1.cells.at0 rfl) (nn_mk (ldI_mk (od.cells.at0 rfl) ?_))
  unfold feed at hk
  have f12' : Fr (fun b => b = a.block) h h2 := f12.mono fun _ h => h.elim
  refine ifE (fun (e : (d.st : Int) = 5) => ?_) fun (e : (d.st : Int) ≠ 5) => ?_
  · rw [if_pos (by omega)] at hk
    unfold chunked_Decoder_Feed_b3
    rw [if_pos rfl]
    exact hk h2 f12' od
  refine ldP_mk (o1.cells.at0 rfl) (nn_mk (ldI_mk (od.cells.at0 rfl) ?_))
  unfold chunked_Decoder_Feed_b3
  refine ifE (fun (e2 : (d.st : Int) = 6) => ?_) fun (e2 : (d.st : Int) ≠ 6) => ?_
  · rw [if_pos (by omega)] at hk
    exact hk h2 f12' od
  rw [if_neg (by omega)] at hk
  have ok : d.ok := by
    rcases fine with h | h
    · omega
    · exact h
  refine al_mk (vs := [.slice none 0 0]) fun bo h3 f3 e3 o3 => ?_
  have z2 := o2.lt
  refine feedloop_c ⟨f12'.trans (f3.mono fun _ h => h.elim), la, by omega, by omega, by omega, od.fr0 f3, ⟨none, 0, Nat.le_refl _, o3, ⟨rfl, rfl⟩, fun b hb => (notInA hb).elim⟩, o2.fr0 f3, o1.fr0 f3, by simpa using lim⟩ ok (by omega) hk
theorem FeedNil_c [Gh] (s : ByteArray) {h : Heap} {Q : Value → Heap → Prop}
    (hk : ∀ h', Fr (fun _ => False) h h' → Q (FeedR.v ⟨[], [], false, 6, ⟨0, 0, 0, false⟩⟩) h') : CallT Tryd.prog fn_chunked_Decoder_Feed #[.pointer none, .string s] h Q := by
  apply chunked_Decoder_Feed_s
  unfold chunked_Decoder_Feed_v
  refine al_mk (vs := [.pointer none]) fun bd h1 f1 e1 o1 => ?_
  refine al_mk (vs := [.string s]) fun bS h2 f2 e2 o2 => ?_
  refine ldP_mk ((o1.fr0 f2).cells.at0 rfl) ?_
  rw [if_pos (by rfl)]
  exact hk h2 (f1.trans f2)
theorem feedB_fine : ∀ (s : List UInt8) (d : Dec) (acc : List UInt8), d.ok → (feedB s d acc).d.fine
  | [], d, acc, ok => .inr ok
  | x :: s, d, acc, ok => by
    rw [feedB]
    split
    · rename_i e
      have := eat_ok ok e 1 (ok.2.2.2.2.1 e).1
      exact feedB_fine s _ _ this
    · rename_i e
      have sok := stepD_ok ok e (c := x.toNat)
      split
      · exact .inl rfl
      · rename_i h
        have sok := sok (by omega)
        split
        · exact .inr sok
        · exact feedB_fine s _ _ sok
theorem feed_fine {d : Dec} (f : d.fine) (s : List UInt8) : (feed d s).d.fine := by
  unfold feed
  split
  · exact f
  · rename_i h
    rcases f with h' | h'
    · exact absurd (.inr h') h
    · exact feedB_fine s d [] h'
theorem Done_c [Gh] {h : Heap} {a : Addr} {d : Dec} (o : OwnD h a d) {Q : Value → Heap → Prop} (hk : Q (.bool (d.st == 5)) h) : CallT Tryd.prog fn_chunked_Decoder_Done #[.pointer (some a)] h Q := by
  apply chunked_Decoder_Done_s
  unfold chunked_Decoder_Done_v
  rw [if_pos (by rfl)]
  refine nn_mk (ldI_mk (o.cells.at0 rfl) ?_)
  have e : ((d.st : Int) == 5) = (d.st == 5) := by rw [Bool.eq_iff_iff]; simp only [beq_iff_eq]; omega
  rw [e]; exact hk
theorem DoneNil_c [Gh] {h : Heap} {Q : Value → Heap → Prop} (hk : Q (.bool false) h) : CallT Tryd.prog fn_chunked_Decoder_Done #[.pointer none] h Q := by
  apply chunked_Decoder_Done_s
  unfold chunked_Decoder_Done_v
  rw [if_neg (by simp)]
  exact hk
def Dec.new : Dec := ⟨0, 0, 0, false⟩
theorem new_ok : Dec.new.ok := by unfold Dec.ok Dec.new; simp
theorem New_c [Gh] {h : Heap} {Q : Value → Heap → Prop} (hk : ∀ a h', Fr (fun _ => False) h h' → a.block = h.size → OwnD h' a Dec.new → Q (.pointer (some a)) h') : CallT Tryd.prog fn_chunked_New #[] h Q := by
  apply chunked_New_s
  unfold chunked_New_v
  exact al_mk (vs := Dec.new.vals) fun a h1 f1 e1 o1 => hk a h1 f1 e1 o1
end Go.Proofs.YtjhcockaojlfiaaDoor
