/-
  awake; the laws None, Plain, Builds.
-/
import Derived.Test.YthnheldoklgceaaDoorAutU
import Derived.Test.YthnheldoklgceaaDoorTy
namespace Go.Proofs.YthnheldoklgceaaDoor
set_option linter.unusedSimpArgs false
set_option linter.unusedVariables false
set_option maxRecDepth 20000
open Go
open Go.IntKind (wrap)
def heL : List Pt := [⟨[104, 101], false⟩, ⟨[115, 104, 101], false⟩, ⟨[104, 101, 114, 115], false⟩]
def aaL : List Pt := [⟨[97, 97], false⟩]
def preW (L : List Pt) : List Nm := [] :: L.flatMap fun p => (List.range (p.t.length + 1)).map fun k => (lowL p.t).take k
theorem mem_preW (L : List Pt) (w : Nm) : w ∈ preW L ↔ isPre L L.length w := by
  unfold preW isPre
  rw [List.mem_cons, List.mem_flatMap]
  constructor
  · rintro (h | ⟨p, hp, hw⟩)
    · exact .inl h
    · obtain ⟨k, _, rfl⟩ := List.mem_map.1 hw
      obtain ⟨j, hj, rfl⟩ := List.mem_iff_getElem.1 hp
      exact .inr ⟨j, hj, hj, List.take_prefix _ _⟩
  · rintro (h | ⟨j, hj, _, hw⟩)
    · exact .inl h
    · refine .inr ⟨L[j], List.getElem_mem hj, List.mem_map.2 ⟨w.length, List.mem_range.2 ?_, (List.prefix_iff_eq_take.1 hw).symm⟩⟩
      have := hw.length_le
      rw [lowL_len] at this; omega
def heW : List Nm := [[], [104], [104, 101], [115], [115, 104], [115, 104, 101], [104, 101, 114], [104, 101, 114, 115]]
theorem heW_mem (w : Nm) : w ∈ heW ↔ w ∈ preW heL := by
  constructor
  · intro h
    have : ∀ w ∈ heW, w ∈ preW heL := by decide +kernel
    exact this w h
  · intro h
    have : ∀ w ∈ preW heL, w ∈ heW := by decide +kernel
    exact this w h
theorem he_states {ws : List Nm} (nd : ws.Nodup) (hw : ∀ w, w ∈ ws ↔ isPre heL heL.length w) : ws.length = 8 := by
  have hn : heW.Nodup := by decide +kernel
  exact ((List.perm_ext_iff_of_nodup nd hn).2 fun w => by rw [hw, heW_mem, mem_preW]).length_eq
theorem trueOk : ∀ (h h' : Heap) (x : Pt), Fr (fun _ => False) h h' → (fun (_ : Heap) (_ : Pt) => True) h x → (fun (_ : Heap) (_ : Pt) => True) h' x := fun _ _ _ _ _ => trivial
theorem awake_c [Gh] {h : Heap} {Q : Value → Heap → Prop} (hk : ∀ h', Fr (fun _ => False) h h' → Q (.bool true) h') : CallT Tryd.prog fn_law45_awake #[] h Q := by
  apply law45_awake_s
  unfold law45_awake_v
  refine al_of (vs := heL.flatMap ptV) rfl fun t9 h1 f1 e1 o1 => ?_
  have s1 : SlOk 2 ptV (fun _ _ => True) h1 ⟨some t9, 3, heL⟩ := SlOk.of_own ptV_len o1 (by decide) (fun _ _ => trivial)
  refine Build_c ⟨some t9, 3, heL⟩ s1 trueOk (show heL.length ≤ 2 ^ 20 by decide) (fun h' f he => absurd (show errB heL = 0 by decide +kernel) he) fun a h2 sg ws f2 A2 _ => ⟨_, _, rfl, ?_⟩
  have A2 : Auto h2.size h2 a sg ws heL := A2
  refine al_of (vs := aaL.flatMap ptV) rfl fun t15 h3 f3 e3 o3 => ?_
  have s3 : SlOk 2 ptV (fun _ _ => True) h3 ⟨some t15, 1, aaL⟩ := SlOk.of_own ptV_len o3 (by decide) (fun _ _ => trivial)
  refine Build_c ⟨some t15, 1, aaL⟩ s3 trueOk (show aaL.length ≤ 2 ^ 20 by decide) (fun h' f he => absurd (show errB aaL = 0 by decide +kernel) he) fun b h4 sg2 ws2 f4 B4 _ => ⟨_, _, rfl, ?_⟩
  have B4 : Auto h4.size h4 b sg2 ws2 aaL := B4
  show ite _ _ _
  refine ifNS (ifNS ?_)
  have e1 : errB heL = 0 := by decide +kernel
  have e2 : errB aaL = 0 := by decide +kernel
  rw [show errB (Sl.mk (some t9) 3 heL).xs = 0 from e1, show errB (Sl.mk (some t15) 1 aaL).xs = 0 from e2, if_neg (by decide), if_neg (by decide)]
  have A4 := (A2.fr0 f3).fr0 f4
  refine States_a A4 ⟨_, rfl, ?_⟩
  rw [he_states A4.d.nd A4.w, if_pos (by decide)]
  refine All_c A4 [117, 115, 104, 101, 114, 115] (by decide) fun h5 r5 c5 f5 R5 hr5 => ⟨_, _, _, rfl, ?_⟩
  have e5 : hAll heL [117, 115, 104, 101, 114, 115] 0 (List.length ([117, 115, 104, 101, 114, 115] : Nm)) = [(0, 4), (1, 4), (2, 6)] := by decide +kernel
  rw [e5] at R5 ⊢
  refine al_of (vs := [((0 : Nat), (4 : Nat)), (1, 4), (2, 6)].flatMap hitV) rfl fun t42 h6 f6 e6 o6 => ?_
  refine same_c (R5.fr0 f6) (Row.of_own hitV_len o6) (by decide) ⟨_, rfl, ?_⟩
  rw [if_pos rfl]
  have B6 := (B4.fr0 f5).fr0 f6
  refine All_c B6 [97, 97, 97] (by decide) fun h7 r7 c7 f7 R7 hr7 => ⟨_, _, _, rfl, ?_⟩
  have e7 : hAll aaL [97, 97, 97] 0 (List.length ([97, 97, 97] : Nm)) = [(0, 2), (0, 3)] := by decide +kernel
  rw [e7] at R7 ⊢
  refine al_of (vs := [((0 : Nat), (2 : Nat)), (0, 3)].flatMap hitV) rfl fun t50 h8 f8 e8 o8 => ?_
  refine same_c (R7.fr0 f8) (Row.of_own hitV_len o8) (by decide) ⟨_, rfl, ?_⟩
  exact hk h8 (((((((f1.trans f2).trans f3).trans f4).trans f5).trans f6).trans f7).trans f8)
/-! ### Arguments -/
def toPt (r : S_api_Pattern) : Pt := ⟨r.Text, r.Nocase⟩
def ptS (s : Sl S_api_Pattern) : Sl Pt := ⟨s.p, s.cap, s.xs.map toPt⟩
theorem ptS_ok {h : Heap} {s : Sl S_api_Pattern} (o : SlOk 2 S_api_Pattern.vals S_api_Pattern.ok h s) : SlOk 2 ptV (fun _ _ => True) h (ptS s) := by
  refine ⟨by show (s.xs.map toPt).length ≤ _; rw [List.length_map]; exact o.1, by show (s.xs.map toPt).length ≤ _; rw [List.length_map]; exact o.cap, fun i hi => ?_⟩
  have hi' : i < s.xs.length := by have : i < (s.xs.map toPt).length := hi; rwa [List.length_map] at this
  obtain ⟨ad, h1, h2, _⟩ := o.at_ i hi'
  refine ⟨ad, h1, ?_, trivial⟩
  have e : (s.xs.map toPt)[i]'(by rw [List.length_map]; exact hi') = toPt s.xs[i] := List.getElem_map ..
  show Cells h (ad.add (i * 2)) (ptV ((s.xs.map toPt)[i]'(by rw [List.length_map]; exact hi')))
  rw [e]; exact h2
theorem SlOk.pts {h : Heap} {s : Sl Pt} (o : SlOk 2 ptV (fun _ _ => True) h s) : PtOk h s.p s.xs := fun i hi => by
  obtain ⟨ad, h1, h2, _⟩ := o.at_ i hi; exact ⟨ad, h1, h2⟩
end Go.Proofs.YthnheldoklgceaaDoor
