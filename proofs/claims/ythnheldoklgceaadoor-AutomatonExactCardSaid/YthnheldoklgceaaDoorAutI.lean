/-
  The patterns' copy; Build's checks.
-/
import Derived.Test.YthnheldoklgceaaDoorAutH
namespace Go.Proofs.YthnheldoklgceaaDoor
set_option linter.unusedSimpArgs false
set_option linter.unusedVariables false
set_option maxRecDepth 20000
open Go
open Go.IntKind (wrap)
theorem ptV_len (p : Pt) : (ptV p).length = 2 := rfl
theorem el_pt : ElemT Tryd.prog T_sl_api_Pattern T_api_Pattern Tryd.t30 (.agg #[.string ⟨#[]⟩, .bool false]) :=
  ⟨Tryd.underlying22, by kernel_rfl, by kernel_rfl, by kernel_rfl, by decide +kernel⟩
theorem Clone_c [Gh] (s : Sl Pt) {ok : Heap → Pt → Prop} {h : Heap} (os : SlOk 2 ptV ok h s) (okf : ∀ h h' x, Fr (fun _ => False) h h' → ok h x → ok h' x) (hl : s.xs.length ≤ 2 ^ 20) {Q : Value → Heap → Prop}
    (hk : ∀ q c h', Fr (fun _ => False) h h' → Row 2 ptV h' q c s.xs → (∀ x, InA q x → h.size ≤ x) → Q (.slice q s.xs.length c) h') :
    CallT Tryd.prog fn_slices_Clone_api_Pattern_api_Pattern #[.slice s.p s.xs.length s.cap] h Q := by
  apply slices_Clone_api_Pattern_api_Pattern_s
  unfold slices_Clone_api_Pattern_api_Pattern_v
  cases hp : s.p with
  | none =>
    rw [if_pos (by rfl)]
    have he : s.xs = [] := by
      cases hx : s.xs with
      | nil => rfl
      | cons a l =>
        obtain ⟨ad, h1, _⟩ := os.at_ 0 (by rw [hx]; simp)
        rw [hp] at h1; cases h1
    have := hk none 0 h (Fr.refl _ _) (by rw [he]; exact Row.nil) fun x hx => (notInA hx).elim
    rw [he] at this; exact this
  | some ad =>
    rw [if_neg (by simp)]
    refine al_mk (vs := []) fun t5 h1 f1 e1 o1 => ?_
    have z1 := f1.size
    have R0 : Row 2 ptV h1 (some t5) 0 [] := Row.of_own (L := []) ptV_len o1
    have src := (SlOk.fr0 okf f1 os).src ptV_len
    rw [hp] at src
    refine R0.appL el_pt Tryd.underlying22 (by intro k e; cases e) (by kernel_rfl) (by decide +kernel) ptV_len (fun _ => rfl) src (by simp; omega) fun p' cap' h' R' f hn => ⟨_, _, _, rfl, ?_⟩
    refine hk p' cap' h' (f1.tr f fun x hx hh => ?_) R' fun x hx => ?_
    · obtain ⟨a', h1, h2⟩ := hh; cases h1; omega
    · rcases hn x hx with hh | hh
      · obtain ⟨a', h1, h2⟩ := hh; cases h1; omega
      · omega
/-- What Build says of a list. -/
def errL : List Pt → Int
  | [] => 0
  | p :: l => if p.t = [] then 2 else if p.t.length > 64 then 3 else errL l
theorem errL_ok : ∀ {L : List Pt}, errL L = 0 → ∀ p ∈ L, p.t ≠ [] ∧ p.t.length ≤ 64
  | [], _, p, hp => by cases hp
  | q :: L, h, p, hp => by
    unfold errL at h
    split at h
    · cases h
    · split at h
      · cases h
      · rcases List.mem_cons.1 hp with rfl | hp
        · exact ⟨by assumption, by omega⟩
        · exact errL_ok h p hp
end Go.Proofs.YthnheldoklgceaaDoor
