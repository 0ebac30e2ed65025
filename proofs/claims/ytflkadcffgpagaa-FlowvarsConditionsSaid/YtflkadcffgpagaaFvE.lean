/-
  Names of the program.
-/
import Derived.Test.YtflkadcffgpagaaFvD
namespace Go.Proofs.Ytflkadcffgpagaa
set_option linter.unusedSimpArgs false
set_option linter.unusedVariables false
set_option maxRecDepth 20000
open Go
open Go.IntKind (wrap)
def strV (s : Nm) : List Value := [.string (bs s)]
theorem strV_len (s : Nm) : (strV s).length = 1 := rfl
def anyR : Value → Option (DataW Unit × List MemPlace) := fun _ => some (.lit (.bool true), [])
theorem owns_of {w : World} {r : Nat} {ks : List Nm} (I : MapI strE w.heap r (setV ks)) (hk : ∀ k ∈ ks, k.length ≤ maxLen) (hl : ks.length ≤ maxLen) :
    ∃ D : DataW Unit, w.ownsMap Try.prog 9 anyR r ks.length D ∧ (strKeys D).Perm ks ∧ Maps.size D = ks.length := by
  obtain ⟨es, c, h1, h2, h3⟩ := I
  have hlen : es.length = ks.length := by have := congrArg List.length h3; simpa [setV] using this
  have hkeys : es.map (·.1) = ks := by
    have := congrArg (List.map (·.1)) h3
    rw [List.map_map] at this
    have e2 : (setV ks).map (·.1) = ks := by unfold setV; rw [List.map_map]; exact List.map_id' ks
    rw [e2] at this
    exact this
  have rdm : ∀ e ∈ es, Go.WideElems.rd Try.prog 9 anyR (mkE strE e) = some (.string e.1, .lit (.bool true)) := fun e he => by
    refine Go.WideElems.rd_mk (yv := (.lit (.bool true), [])) ?_ rfl
    have hu : Try.prog.underlying 9 = some .string := Try.underlying9
    have hmem : e.1 ∈ ks := by rw [← hkeys]; exact List.mem_map_of_mem he
    have hsz : (bs e.1).size ≤ maxLen := by rw [bs_size]; exact hk e.1 hmem
    have hd : (bs e.1).data.toList = e.1 := bs_data e.1
    show Go.keyOf Try.prog 9 (.string (bs e.1)) = some (.string e.1)
    simp [Go.keyOf, Go.mapKey, hu, hsz, hd]
  have rgm : ∀ e ∈ es, Go.WideElems.rg Try.prog 9 anyR (mkE strE e) = (.string e.1, .lit (.bool true)) := fun e he => Go.WideElems.rg_of (rdm e he)
  refine ⟨_, ⟨_, c, h1, ⟨by simpa [hlen] using hl, ⟨?_, ?_, ?_⟩, fun x hx => ?_⟩, by simp [hlen], rfl⟩, ?_, ?_⟩
  · intro x hx
    rw [List.toList_toArray] at hx
    obtain ⟨e, he, rfl⟩ := List.mem_map.1 hx
    exact h2.lt e he
  · rw [List.toList_toArray, List.map_map]; exact h2.borns
  · rw [List.toList_toArray, List.map_map]
    have := h2.keys
    have e : es.map ((fun x : MapEntry => x.key) ∘ mkE strE) = (es.map (·.1)).map strE := by rw [List.map_map]; rfl
    rw [e]
    exact List.Pairwise.map _ (fun a b hne he => hne (by unfold strE at he; exact bs_inj.1 (Value.string.inj he))) this
  · rw [List.toList_toArray] at hx
    obtain ⟨e, he, rfl⟩ := List.mem_map.1 hx
    exact ⟨_, rdm e he⟩
  · show (((((es.map (mkE strE)).toArray.toList.map (Go.WideElems.rg Try.prog 9 anyR)).foldr DataW.insert []).map fun p => strOf p.1)).Perm ks
    rw [List.toList_toArray, List.map_map]
    refine ((Go.WideShapes.sorted_perm _).map _).trans ?_
    rw [List.map_map]
    have : es.map ((fun p : Lit × DataW Unit => strOf p.1) ∘ (Go.WideElems.rg Try.prog 9 anyR) ∘ mkE strE) = ks := by
      rw [← hkeys]
      apply List.map_congr_left
      intro e he
      show strOf (Go.WideElems.rg Try.prog 9 anyR (mkE strE e)).1 = e.1
      rw [rgm e he]; rfl
    rw [this]
  · show ((((es.map (mkE strE)).toArray.toList.map (Go.WideElems.rg Try.prog 9 anyR)).foldr DataW.insert [])).length = ks.length
    rw [(Go.WideShapes.sorted_perm _).length_eq]
    simp [hlen]
theorem sortedK_c [Gh] {h : Heap} {r : Nat} {l : List Nm} (M : SetM h r l) (ha : Asc l) (hl : l.length ≤ 1000) (hk : ∀ k ∈ l, k.length ≤ 1000) {K : Value → Heap → Prop}
    (hK : ∀ p cap h', Fr (fun _ => False) h h' → Row 1 strV h' p cap l → (∀ b, InA p b → h.size ≤ b) → K (.slice p l.length cap) h') :
    CallT Try.prog fn_slices_Sorted_string #[.func (.func 36) #[] #[.pointer (some ⟨h.size, 0, none⟩)]] (h.push (.cells #[.map (some r)] 44 (0, 0))) K := by
  obtain ⟨ks, I, p⟩ := M
  intro w hw hs
  have hrun : (callFunc fn_slices_Sorted_string #[.func (.func 36) #[] #[.pointer (some ⟨h.size, 0, none⟩)]]).run Try.prog w = .ok (.enter fn_slices_Sorted_string #[.func (.func 36) #[] #[.pointer (some ⟨h.size, 0, none⟩)]]) w := rfl
  rw [hrun]
  simp only
  have hm : maxLen = 9223372036854775807 := by rfl
  have hkl : ks.length = l.length := p.length_eq
  obtain ⟨D, hown, hperm, hsize⟩ := owns_of (w := { w with heap := h }) I (fun k hk' => by have := hk k (p.mem_iff.1 hk'); omega) (by omega)
  have hw0 : ({ w with heap := h } : World).alloc (.cells #[.map (some r)] 44) = w := by
    show ({ w with heap := h.push (.cells #[.map (some r)] 44 (0, 0)) } : World) = w
    rw [← hw]
  have hc := callsIn_wide.1 (Try.slices_Sorted_keys_23_24 (H := Unit) r ks.length D anyR { w with heap := h } hown (by omega) (by omega))
  rw [hw0] at hc
  refine hc.mono ?_
  rintro e w' ⟨v, ss, rfl, hss, ⟨hxs, hrow⟩, hnil, hb⟩
  have hsl : ss.mergeSort (fun x y => decide (x ≤ y)) = l := sort_asc ((hss.trans hperm).trans p) ha
  have hlen : ss.length = l.length := by rw [← hsl]; exact (List.length_mergeSort ss).symm
  refine ⟨v, rfl, ?_, ⟨hb.os.trans hs.1, hb.tape.trans hs.2.1, hb.output.trans hs.2.2⟩⟩
  have hwh : w.heap = h.push (.cells #[.map (some r)] 44 (0, 0)) := hw
  have F : Fr (fun _ => False) h w'.heap := by
    refine (Fr.push _ h (.cells #[.map (some r)] 44 (0, 0))).trans ⟨by rw [← hwh]; exact hb.size, fun b hb' _ => ?_⟩
    rw [← hwh]; exact hb.block b (by rw [hwh]; exact hb')
  rw [hsl] at hrow
  rcases hrow with ⟨rfl, h0⟩ | ⟨g, cap, cur, rfl, hg, hget, hcap, hcm, hcs, hcur⟩
  · have : l = [] := List.length_eq_zero_iff.1 (by omega)
    subst this
    exact hK none 0 w'.heap F Row.nil fun b hb => (notInA hb).elim
  · rw [hlen]
    have hfl : l.flatMap strV = l.map encStr := by
      have : ∀ m : List Nm, m.flatMap strV = m.map encStr := fun m => by induction m with
        | nil => rfl
        | cons x m ih => rw [List.flatMap_cons, ih]; rfl
      exact this l
    rw [hlen, Nat.mul_one] at hcur
    have hcl : l.length ≤ cur.size := by omega
    refine hK (some ⟨g, 0, none⟩) cap w'.heap F ⟨⟨rfl, rfl, cur, 9, (0, 0), .inl rfl, hget, by omega, ?_, ?_⟩, by omega⟩ fun b hb => ?_
    · rw [hfl, List.length_map]; exact hcl
    · intro i hi
      simp only [hfl, List.length_map] at hi
      have e1 : (cur.toList.take l.length)[i]? = (l.map encStr)[i]? := by rw [hcur]
      rw [List.getElem?_take_of_lt hi] at e1
      have e2 : (l.flatMap strV)[i]'(by rw [hfl, List.length_map]; exact hi) = (l.map encStr)[i]'(by rw [List.length_map]; exact hi) := by simp only [hfl]
      rw [e2, ← List.getElem?_eq_getElem, ← e1, Array.getElem?_toList]
    · obtain ⟨ad, h1, rfl⟩ := hb
      cases h1
      have : w.heap.size ≤ g := hg
      rw [hwh] at this
      simp at this
      show h.size ≤ g
      omega
theorem names_c [Gh] {ok : Nat → Prop} {h : Heap} {v : Addr} {r1 r2 : Nat} {l1 l2 : List Nm} (V : VarF ok h v r1 r2 l1 l2) (a1 : Asc l1) (a2 : Asc l2) (n1 : l1.length ≤ 32) (n2 : l2.length ≤ 32) (k1 : ∀ k ∈ l1, k.length ≤ 1000) (k2 : ∀ k ∈ l2, k.length ≤ 1000) (dir : Int) {Q : Value → Heap → Prop}
    (hk : ∀ p cap h', Fr (fun _ => False) h h' → Row 1 strV h' p cap (selL dir l1 l2) → (∀ b, InA p b → h.size ≤ b) → Q (.slice p (selL dir l1 l2).length cap) h') :
    CallT Try.prog fn_flowvars_Vars_Names #[.pointer (some v), .int .i64 dir] h Q := by
  apply flowvars_Vars_Names_s
  unfold flowvars_Vars_Names_v
  refine ifNS ?_
  unfold selL at hk
  refine right_c dir ⟨_, rfl, ifN (fun e => ?_) fun e => ?_⟩
  · rw [decide_eq_false_iff_not] at e
    rw [if_neg (fun h => e (.inl h)), if_neg (fun h => e (.inr h))] at hk
    exact hk none 0 h (Fr.refl _ _) Row.nil fun b hb => (notInA hb).elim
  rw [decide_eq_true_eq] at e
  refine nn_mk ?_
  have go : ∀ (r : Nat) (l : List Nm), SetM h r l → Asc l → l.length ≤ 32 → (∀ k ∈ l, k.length ≤ 1000) → (∀ p cap h', Fr (fun _ => False) h h' → Row 1 strV h' p cap l → (∀ b, InA p b → h.size ≤ b) → Q (.slice p l.length cap) h') → CallT Try.prog fn_maps_Keys_map_string_bool_string_bool #[.map (some r)] h fun v h2 => ∃ t19 : Value, v = t19 ∧ CallT Try.prog fn_slices_Sorted_string #[t19] h2 fun v h3 => ∃ t20a : Option Addr, ∃ t20n : Nat, ∃ t20c : Nat, v = .slice t20a t20n t20c ∧ Q (.slice t20a t20n t20c) h3 := by
    intro r l M a n k hq
    apply maps_Keys_map_string_bool_string_bool_s
    unfold maps_Keys_map_string_bool_string_bool_v alV
    refine ⟨_, rfl, ?_⟩
    exact sortedK_c M a (by omega) k fun p cap h' f R hp => ⟨_, _, _, rfl, hq p cap h' f R hp⟩
  rcases e with rfl | rfl
  · refine idxA_mk 0 (by decide) (by omega) ?_
    rw [show (wrap .i64 (1 - 1)).toNat * 1 = 0 from by decide]
    refine ldM_mk (V.own.cells.at (j := 0) rfl) (go r1 l1 V.m1 a1 n1 k1 hk)
  · refine idxA_mk 1 (by decide) (by omega) ?_
    rw [show (wrap .i64 (2 - 1)).toNat * 1 = 1 from by decide]
    refine ldM_mk (V.own.cells.at (j := 1) rfl) (go r2 l2 V.m2 a2 n2 k2 hk)
end Go.Proofs.Ytflkadcffgpagaa
