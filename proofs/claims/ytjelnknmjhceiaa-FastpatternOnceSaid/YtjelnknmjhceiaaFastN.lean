/-
  The reference's groups: one rule more.
-/
import Derived.Test.YtjelnknmjhceiaaFastJ
namespace Go.Proofs.Ytjelnknmjhceiaa
set_option linter.unusedSimpArgs false
set_option linter.unusedVariables false
set_option maxRecDepth 20000
open Go
def setsL : List Value → Nat → List Value → List Value
  | l, _, [] => l
  | l, j, v :: vs => setsL (l.set j v) (j + 1) vs
theorem setsL_len : ∀ (vs l : List Value) (j : Nat), (setsL l j vs).length = l.length
  | [], _, _ => rfl
  | v :: vs, l, j => by rw [setsL, setsL_len vs]; simp
theorem set_same {α : Type} {l : List α} {j : Nat} {v : α} (h : l[j]? = some v) : l.set j v = l := by
  apply List.ext_getElem?
  intro i
  rw [List.getElem?_set]
  split
  · rename_i e; subst e
    split
    · exact h.symm
    · rename_i hn; rw [List.getElem?_eq_none (by omega)]
  · rfl
section
variable {ι : Type} [DecidableEq ι] {sz : ι → Nat} {sl : ι → Option Addr} {cap : ι → Nat}
theorem put_put {α : Type} (f : ι → α) (x : ι) (v w : α) : put (put f x v) x w = put f x w := by
  funext y; unfold put; split <;> rfl
theorem fam_stN (x : ι) {ad : Addr} (hx : sl x = some ad) (o : Nat) {K : Heap → Prop} : ∀ (vs : List Value) (i : Nat) (cs : ι → List Value) (h : Heap), Fam sz h sl cap cs → o + i + vs.length ≤ (cs x).length → vs.all cellV = true →
    (∀ h', Fam sz h' sl cap (put cs x (setsL (cs x) (o + i) vs)) → Fr (InA (sl x)) h h' → K h') → stN h (ad.add o) vs i K
  | [], i, cs, h, F, _, _, hk => by
    have e : put cs x (setsL (cs x) (o + i) []) = cs := by funext y; unfold put setsL; split
                                                           · rename_i e; rw [e]
                                                           · rfl
    exact hk h (by rw [e]; exact F) (Fr.refl _ _)
  | v :: vs, i, cs, h, F, hl, hv, hk => by
    simp only [List.length_cons] at hl
    simp only [List.all_cons, Bool.and_eq_true] at hv
    have hs : ad.spot = none := by have := F.own x; rw [hx] at this; exact this.2.1
    show st1 h ((ad.add o).add i) v fun h' => stN h' (ad.add o) vs (i + 1) K
    rw [add_add hs]
    refine F.set x hx (by omega) hv.1 fun h1 F1 f1 => ?_
    refine fam_stN x hx o vs (i + 1) _ h1 F1 (by rw [put_self, List.length_set]; omega) hv.2 fun h2 F2 f2 => ?_
    rw [put_self, put_put] at F2
    exact hk h2 F2 (f1.trans f2)
end
section
variable {h : Heap} {gs : List Grp} {tr : Nat → Sl Int} {sl : Ix → Option Addr} {cap : Ix → Nat} {cs : Ix → List Value}
theorem rplace_c [Gh] (G : GRel h gs tr sl cap cs) (r : Ru) (ok : r.ok h) (ht : r.Transforms.xs.length ≤ 2 ^ 20) (hl : gs.length ≤ 2 ^ 20) {Q : Value → Heap → Prop}
    (hk : ∀ h', Fr (fun _ => False) h h' → Q (.int .i64 (if gs.findIdx (fitsG r) = gs.length then -1 else (gs.findIdx (fitsG r) : Nat))) h') :
    CallT Try.prog fn_ref46_place #[.slice (sl xO) gs.length (cap xO), .agg r.vals.toArray] h Q := by
  apply ref46_place_s
  unfold ref46_place_v
  refine al_mk fun t3 h1 f1 ha o1 => ?_
  refine LoopV.mk (fun i h' => ∃ k : Nat, i = k ∧ k ≤ gs.length ∧ Fr (fun _ => False) h1 h' ∧ ∀ j (hj : j < gs.length), j < k → fitsG r gs[j] = false) (fun i _ => gs.length - i.toNat) ⟨0, rfl, by omega, Fr.refl _ _, fun j _ hj => by omega⟩ ?_
  rintro i h2 ⟨k, rfl, hkl, f2, hpre⟩
  unfold ref46_place_l1
  refine ifD (fun hlt => ?_) (fun hge => ?_)
  · have hks : k < gs.length := by omega
    have f02 := f1.trans f2
    have G1 := G.fr f02
    obtain ⟨ad, eo, hs, cc⟩ := G1.out hks
    refine idxA_mk k rfl hks ?_
    rw [eo, Int.toNat_natCast]
    have o2 := Own.fr0 f2 o1
    have next : ∀ h', Fr (fun _ => False) h1 h' → fitsG r gs[k] = false → (∃ k' : Nat, IntKind.wrap .i64 ((k : Int) + 1) = k' ∧ k' ≤ gs.length ∧ Fr (fun _ => False) h1 h' ∧ ∀ j (hj : j < gs.length), j < k' → fitsG r gs[j] = false) ∧ gs.length - (IntKind.wrap .i64 ((k : Int) + 1)).toNat < gs.length - k := by
      intro h' f' hf
      rw [wr (by omega) (by omega)]
      refine ⟨⟨k + 1, by omega, by omega, f', fun j hj hjk => ?_⟩, by omega⟩
      by_cases e : j = k
      · subst e; exact hf
      · exact hpre j hj (by omega)
    refine nn_mk (ldI_mk (cc.at0 rfl) (ldI_mk (o2.cells.at rfl) ?_))
    refine ifE (fun he => ?_) (fun hne => ?_)
    · refine idxA_mk k rfl hks (nn_mk (ldL_mk (cc.at rfl) (ldL_mk (o2.cells.at rfl) ?_)))
      refine ints_c (tr k) r.Transforms (SlOk.fr0 fr_c f02 (G.trok k hks).1) (SlOk.fr0 fr_c f02 ok.k13) (by omega) ⟨_, rfl, ?_⟩
      have ef : fitsG r gs[k] = ((tr k).xs == r.Transforms.xs) := by
        have e1 : (gs[k].kind == r.Kind) = true := by simpa using he
        unfold fitsG; rw [e1, Bool.true_and, (G.row k hks).trx]
      refine ifB (fun hf => ?_) (fun hf => ?_)
      · have := hk _ f02
        rw [findIdx_at hks (ef.trans hf) hpre, if_neg (by omega)] at this; exact this
      · exact next _ f2 (ef.trans hf)
    · refine next _ f2 ?_
      have e1 : (gs[k].kind == r.Kind) = false := by simpa using hne
      unfold fitsG; rw [e1, Bool.false_and]
  · have e : k = gs.length := by omega
    have := hk _ (f1.trans f2)
    rw [findIdx_no fun j hj => hpre j hj (by omega), if_pos rfl] at this; exact this
/-- A new pattern with its rule. -/
theorem GRel.pattern2 {N : Nat} (G : GRel h gs tr sl cap cs) {i : Nat} (hi : i < gs.length) (p : List UInt8 × Bool) (k : Nat) {a1 a2 a3 : Option Addr} {c1 c2 c3 : Nat} {h' : Heap} (hc1 : gs[i].pats.length + 1 ≤ c1) (hc2 : gs[i].rules.length + 1 ≤ c2) (hc3 : 1 ≤ c3)
    {cs' : Ix → List Value} (e0 : cs' xO = ((cs xO).set (i * 5 + 2) (.slice a1 (gs[i].pats.length + 1) c1)).set (i * 5 + 3) (.slice a2 (gs[i].rules.length + 1) c2))
    (e1 : cs' (xP i) = cs (xP i) ++ [.string (bs p.1), .bool p.2]) (e2 : cs' (xR i) = cs (xR i) ++ [.slice a3 1 c3]) (e4 : cs' (xI i gs[i].rules.length) = [.int .i64 k]) (e3 : ∀ x : Ix, x ≠ xO → x ≠ xP i → x ≠ xR i → x ≠ xI i gs[i].rules.length → cs' x = cs x)
    (F : Fam szG h' (put (put (put sl (xI i gs[i].rules.length) a3) (xP i) a1) (xR i) a2) (put (put (put cap (xI i gs[i].rules.length) c3) (xP i) c1) (xR i) c2) cs') (t : Turned N h h' sl (put (put (put sl (xI i gs[i].rules.length) a3) (xP i) a1) (xR i) a2)) :
    GRel h' (gs.modify i fun g => { g with pats := g.pats ++ [p], rules := g.rules ++ [[(k : Int)]] }) tr (put (put (put sl (xI i gs[i].rules.length) a3) (xP i) a1) (xR i) a2) (put (put (put cap (xI i gs[i].rules.length) c3) (xP i) c1) (xR i) c2) cs' := by
  have r := G.row i hi
  have hlen := G.olen
  refine G.update hi _ F t ?_ (fun x h0 h1 => ⟨by rw [other_put h1, other_put h1, other_put h1], by rw [other_put h1, other_put h1, other_put h1], e3 x (fun e => h0 (by rw [e])) (fun e => h1 (by rw [e])) (fun e => h1 (by rw [e])) (fun e => h1 (by rw [e]))⟩) (by rw [out_put (by decide), out_put (by decide), out_put (by decide)]) (by rw [e0, List.length_set, List.length_set])
    (fun m hm => by rw [e0, set_out (by omega) hm, set_out (by omega) hm]) rfl
  have nPR : (xP i) ≠ xR i := ix_ne (by decide) _ _ _ _
  have nAP : (xA i) ≠ xP i := ix_ne (by decide) _ _ _ _
  have nAR : (xA i) ≠ xR i := ix_ne (by decide) _ _ _ _
  have nAI : ∀ n, (xA i) ≠ xI i n := fun n => ix_ne (by decide) _ _ _ _
  have nIP : ∀ n, (xI i n) ≠ xP i := fun n => ix_ne (by decide) _ _ _ _
  have nIR : ∀ n, (xI i n) ≠ xR i := fun n => ix_ne (by decide) _ _ _ _
  have nIO : ∀ n, (xI i n) ≠ xO := fun n => ix_ne (by decide) _ _ _ _
  have eA := e3 (xA i) (ix_ne (by decide) _ _ _ _) nAP nAR (nAI _)
  have eI := fun n (hn : n ≠ gs[i].rules.length) => e3 (xI i n) (nIO n) (nIP n) (nIR n) (ix_ne3 hn _ _ _ _)
  have rl := r.rl
  constructor <;> (try simp only [e0, e1, e2, eA, put_self, put_ne _ _ nPR, put_ne _ _ nAP, put_ne _ _ nAR, put_ne _ _ (nAI _), put_ne _ _ (nIP _), put_ne _ _ (nIR _), List.length_append, List.length_cons, List.length_nil])
  · rw [List.getElem?_set_ne (by omega), List.getElem?_set_ne (by omega)]; exact r.o0
  · rw [List.getElem?_set_ne (by omega), List.getElem?_set_ne (by omega)]; exact r.o1
  · rw [List.getElem?_set_ne (by omega), List.getElem?_set_self (by omega)]
  · rw [List.getElem?_set_self (by rw [List.length_set]; omega)]
  · rw [List.getElem?_set_ne (by omega), List.getElem?_set_ne (by omega)]; exact r.o4
  · exact r.trx
  · rw [r.pl]; simp
  · exact hc1
  · omega
  · exact hc2
  · intro n hn
    by_cases e : n < gs[i].rules.length
    · rw [List.getElem?_append_left (by omega), List.getElem_append_left e, put_ne _ _ (ix_ne3 (by omega) _ _ _ _), put_ne _ _ (ix_ne3 (by omega) _ _ _ _)]; exact r.rg n e
    · have : n = gs[i].rules.length := by omega
      subst this
      rw [List.getElem?_append_right (by omega), List.getElem_append_right (Nat.le_refl _), put_self, put_self]
      simp [rl]
  · intro n hn
    by_cases e : n < gs[i].rules.length
    · rw [List.getElem_append_left e, put_ne _ _ (ix_ne3 (by omega) _ _ _ _), eI n (by omega)]; exact r.il n e
    · have : n = gs[i].rules.length := by omega
      subst this
      rw [List.getElem_append_right (Nat.le_refl _), put_self, e4]
      simp; omega
  · intro n hn; rw [put_ne _ _ (ix_ne3 (by omega) _ _ _ _)]; exact r.ifr n (by omega)
  · exact r.al
  · exact r.ac
/-- A group by value: its cells. -/
def rowL (gs : List Grp) (tr : Nat → Sl Int) (sl : Ix → Option Addr) (cap : Ix → Nat) (i : Nat) (hi : i < gs.length) : List Value :=
  [.int .i64 gs[i].kind, .slice (tr i).p (tr i).xs.length (tr i).cap, .slice (sl (xP i)) gs[i].pats.length (cap (xP i)), .slice (sl (xR i)) gs[i].rules.length (cap (xR i)), .slice (sl (xA i)) gs[i].always.length (cap (xA i))]
/-- What 'add' leaves: the family without its out row, and the row that is to stand there. -/
def Added (N : Nat) (h h' : Heap) (gs gs' : List Grp) (tr : Nat → Sl Int) (sl : Ix → Option Addr) (cap : Ix → Nat) (cs : Ix → List Value) (i : Nat) (row : List Value) : Prop :=
  ∃ sl' cap' cs', Fam szG h' sl' cap' cs' ∧ Turned N h h' sl sl' ∧ sl' xO = sl xO ∧ cap' xO = cap xO ∧ cs' xO = cs xO ∧ (∃ (k0 : Int) (a1 : Option Addr) (n1 c1 : Nat) (a2 : Option Addr) (n2 c2 : Nat) (a3 : Option Addr) (n3 c3 : Nat) (a4 : Option Addr) (n4 c4 : Nat), row = [.int .i64 k0, .slice a1 n1 c1, .slice a2 n2 c2, .slice a3 n3 c3, .slice a4 n4 c4]) ∧
    ∀ h2, Fam szG h2 sl' cap' (put cs' xO (setsL (cs xO) (i * 5) row)) → Turned N h h2 sl sl' → GRel h2 gs' tr sl' cap' (put cs' xO (setsL (cs xO) (i * 5) row))
theorem Turned.new {N : Nat} {h1 h2 : Heap} {sl' : Ix → Option Addr} {c : Nat} (t : Turned N h h1 sl sl') (f : Fr (fun b => b = c) h1 h2) (hc : h.size ≤ c) : Turned N h h2 sl sl' :=
  ⟨fun b hb hn => by rw [f.same b (by have := t.size; omega) (by omega), t.fr b hb hn], Nat.le_trans t.size f.size, t.old⟩
theorem put_comm {α : Type} (f : Ix → α) {x y : Ix} (h : x ≠ y) (v w : α) : put (put f x v) y w = put (put f y w) x v := by
  funext z; unfold put
  by_cases hx : z = x
  · subst hx; simp [h]
  · by_cases hy : z = y
    · subst hy; simp [hx]
    · simp [hx, hy]
theorem put_id {α : Type} {f : Ix → α} {x : Ix} {v : α} (h : f x = v) : put f x v = f := by
  funext z; unfold put; split
  · rename_i e; rw [e, h]
  · rfl
theorem row_sets (G : GRel h gs tr sl cap cs) {i : Nat} (hi : i < gs.length) (v2 v3 v4 : Value) :
    setsL (cs xO) (i * 5) [.int .i64 gs[i].kind, .slice (tr i).p (tr i).xs.length (tr i).cap, v2, v3, v4] = (((cs xO).set (i * 5 + 2) v2).set (i * 5 + 3) v3).set (i * 5 + 4) v4 := by
  have r := G.row i hi
  simp only [setsL, Nat.add_assoc, Nat.reduceAdd]
  rw [set_same r.o0, set_same r.o1]
theorem radd_c [Gh] {N : Nat} (G : GRel h gs tr sl cap cs) {i : Nat} (hi : i < gs.length) {m : Nat} (sm : gs[i].pats.length ≤ m ∧ gs[i].rules.length = gs[i].pats.length ∧ gs[i].always.length ≤ m ∧ ∀ l ∈ gs[i].rules, l.length ≤ m) (hm : m ≤ 2 ^ 20) (k : Nat) (r : Ru) (ok : r.ok h) (sh : ShortC r.Contents.xs) {Q : Value → Heap → Prop}
    (hk : ∀ h' row, Added N h h' gs (gs.modify i (addG k r)) tr sl cap cs i row → Q (.agg row.toArray) h') :
    CallT Try.prog fn_ref46_add #[.agg (rowL gs tr sl cap i hi).toArray, .agg r.vals.toArray, .int .i64 k] h Q := by
  apply ref46_add_s
  unfold ref46_add_v
  obtain ⟨sm1, sm2, sm3, sm4⟩ := sm
  have rw_ := G.row i hi
  have hol := G.olen
  refine al_mk fun t3 h1 f1 hb3 o3 => al_mk fun t4 h2 f2 hb4 o4 => al_mk fun t6 h3 f3 hb6 o6 => ?_
  have o3 : Own h1 t3 (rowL gs tr sl cap i hi) T_api_Group := o3
  have l31 := o3.lt
  have o3 := Own.fr0 (f2.trans f3) o3
  have f03 := (f1.trans f2).trans f3
  have o4 := Own.fr0 f3 o4
  have s1 := f1.size
  have s2 := f2.size
  have s3 := f3.size
  have l3 := o3.lt
  have l4 := o4.lt
  have l6 := o6.lt
  have n36 : t3.block ≠ t6.block := by omega
  refine (ldI_mk (o4.cells.at0 rfl) (ldI_mk (o4.cells.at rfl) (ldL_mk (o4.cells.at rfl) (ldL_mk (o4.cells.at rfl) (ldL_mk (o4.cells.at rfl) (ldL_mk (o4.cells.at rfl) (ldB_mk (o4.cells.at rfl) (ldI_mk (o4.cells.at rfl) (ldI_mk (o4.cells.at rfl) (ldI_mk (o4.cells.at rfl) (ldS_mk (o4.cells.at rfl) (ldI_mk (o4.cells.at rfl) (ldI_mk (o4.cells.at rfl) (ldL_mk (o4.cells.at rfl) (ldL_mk (o4.cells.at rfl) (ldL_mk (o4.cells.at rfl) (ldL_mk (o4.cells.at rfl) (ldI_mk (o4.cells.at rfl) (ldI_mk (o4.cells.at rfl) (ldI_mk (o4.cells.at rfl) (ldI_mk (o4.cells.at rfl) ?_)))))))))))))))))))))
  refine rPattern_c r (S_api_Rule.ok_fr _ _ _ f03 ok) sh fun h4 f4 => ?_
  -- what the call's own blocks are apart from
  have hold : ∀ x b, InA (sl x) b → b < h.size := fun x b hb => G.fam.lt hb
  have fin : ∀ (h' : Heap) (sl' : Ix → Option Addr) (cap' : Ix → Nat) (cs' : Ix → List Value) (row : List Value), Fam szG h' sl' cap' cs' → Turned N h h' sl sl' → sl' xO = sl xO → cap' xO = cap xO → cs' xO = cs xO → (∃ (k0 : Int) (a1 : Option Addr) (n1 c1 : Nat) (a2 : Option Addr) (n2 c2 : Nat) (a3 : Option Addr) (n3 c3 : Nat) (a4 : Option Addr) (n4 c4 : Nat), row = [.int .i64 k0, .slice a1 n1 c1, .slice a2 n2 c2, .slice a3 n3 c3, .slice a4 n4 c4]) →
      (∀ h2, Fam szG h2 sl' cap' (put cs' xO (setsL (cs xO) (i * 5) row)) → Turned N h h2 sl sl' → GRel h2 (gs.modify i (addG k r)) tr sl' cap' (put cs' xO (setsL (cs xO) (i * 5) row))) → Q (.agg row.toArray) h' :=
    fun h' sl' cap' cs' row F t e1 e2 e3 hl hg => hk h' row ⟨sl', cap', cs', F, t, e1, e2, e3, hl, hg⟩
  unfold patV
  cases hp : patL r.Contents.xs with
  | none =>
    refine ⟨bs [], false, false, rfl, ?_⟩
    refine cp_mk rfl rfl fun t7 h6 f6 hb7 o7 => ?_
    refine ifN (fun _ => ?_) (fun hx => by cases hx)
    have f36 := f4.trans f6
    have o3 := Own.fr0 f36 o3
    have o6 := Own.fr0 f36 o6
    refine ldL_mk (o3.cells.at rfl) ?_
    refine al_mk (vs := [.int .i64 k]) fun b h7 f7 hb3 o7 => ?_
    have es : (Try.t3).size = 1 := by kernel_rfl
    have eb : (Try.t3).bytes = 8 := by kernel_rfl
    have f07 := (f03.trans f36).trans f7
    have s7 := (f36.trans f7).size
    have G7 := G.fr f07
    refine Fam.app el_int Try.underlying27 (by intro k e; cases e) G7.fam (xA i) (by rw [es]; rfl) (by rw [rw_.al]; simp [intsV, szG]) rw_.ac (Src.one o7 (by rw [es]; rfl) 1) (by intro v hv; rw [List.mem_singleton.1 hv]; rfl) (by rw [eb]; omega) fun a' c' h8 F8 hc8 f8 hn8 => ⟨_, _, _, rfl, ?_⟩
    have t8 : Turned N h h8 sl (put sl (xA i) a') := (Turned.of_fr f07).trans (Turned.of_app f8 hn8)
    have out8 : ∀ x b, InA (put sl (xA i) a' x) b → b < h.size ∨ h7.size ≤ b := fun x b hb => by
      rcases (Turned.of_app (N := N) f8 hn8).old x b hb with ⟨y, hy⟩ | hy
      · exact .inl (hold y b hy)
      · exact .inr hy
    have o38 := (Own.fr0 f7 o3).fr f8 fun hi => by have := hold _ _ hi; omega
    have o68 := (Own.fr0 f7 o6).fr f8 fun hi => by have := hold _ _ hi; omega
    refine st1_own o38 4 (show 4 < 5 by decide) rfl fun h9 f9 _ o39 => ?_
    have o69 := o68.fr f9 fun e => n36 e.symm
    refine (ldI_mk (o39.cells.at0 rfl) (ldL_mk (o39.cells.at rfl) (ldL_mk (o39.cells.at rfl) (ldL_mk (o39.cells.at rfl) (ldL_mk (o39.cells.at rfl) ?_)))))
    refine stN_own o69 rfl rfl fun h10 f10 _ o10 => ?_
    refine (ldI_mk (o10.cells.at0 rfl) (ldL_mk (o10.cells.at rfl) (ldL_mk (o10.cells.at rfl) (ldL_mk (o10.cells.at rfl) (ldL_mk (o10.cells.at rfl) ?_)))))
    have F10 := (F8.fr f9 fun x b hb e => by have := out8 x b hb; subst e; omega).fr f10 fun x b hb e => by have := out8 x b hb; subst e; omega
    have t10 := (t8.new f9 (by omega)).new f10 (by omega)
    have nO : xO ≠ xA i := ix_ne (by decide) _ _ _ _
    refine fin h10 _ _ _ [.int .i64 gs[i].kind, .slice (tr i).p (tr i).xs.length (tr i).cap, .slice (sl (xP i)) gs[i].pats.length (cap (xP i)), .slice (sl (xR i)) gs[i].rules.length (cap (xR i)), .slice a' (gs[i].always.length + 1) c'] F10 t10 (put_ne _ _ nO) (put_ne _ _ nO) (put_ne _ _ nO) ⟨_, _, _, _, _, _, _, _, _, _, _, _, _, rfl⟩ fun h2 F2 t2 => ?_
    have e : gs.modify i (addG k r) = gs.modify i fun g => { g with always := g.always ++ [(k : Int)] } := modify_congr hi (by unfold addG; rw [hp])
    have ew : setsL (cs xO) (i * 5) [.int .i64 gs[i].kind, .slice (tr i).p (tr i).xs.length (tr i).cap, .slice (sl (xP i)) gs[i].pats.length (cap (xP i)), .slice (sl (xR i)) gs[i].rules.length (cap (xR i)), .slice a' (gs[i].always.length + 1) c'] = (put cs (xA i) (cs (xA i) ++ [.int .i64 k]) xO).set (i * 5 + 4) (.slice a' (gs[i].always.length + 1) c') := by
      rw [row_sets G hi, set_same rw_.o2, set_same rw_.o3, put_ne _ _ nO]
    rw [ew] at F2 ⊢
    rw [e]
    exact G.always hi k hc8 F2 t2
  | some p =>
    refine ⟨bs p.1, p.2, true, rfl, ?_⟩
    refine cp_mk rfl rfl fun t7 h6 f6 hb7 o7 => ?_
    refine ifN (fun hx => by cases hx) (fun _ => ?_)
    have f36 := f4.trans f6
    have o3 := Own.fr0 f36 o3
    have o6 := Own.fr0 f36 o6
    have f06 := f03.trans f36
    have s6 := f36.size
    have l7 := o7.lt
    refine LoopV.mk (fun j h' => ∃ n : Nat, j = n ∧ n ≤ gs[i].pats.length ∧ Fr (fun _ => False) h6 h' ∧ ∀ j (hj : j < gs[i].pats.length), j < n → (gs[i].pats[j] == p) = false) (fun j _ => gs[i].pats.length - j.toNat) ⟨0, rfl, by omega, Fr.refl _ _, fun j _ hj => by omega⟩ ?_
    rintro j h7 ⟨n, rfl, hnl, f7, hpre⟩
    unfold ref46_add_l1
    have o3 := Own.fr0 f7 o3
    have o6 := Own.fr0 f7 o6
    have o7 := Own.fr0 f7 o7
    have f07 := f06.trans f7
    have s7 := f7.size
    have G7 := G.fr f07
    refine ldL_mk (o3.cells.at rfl) (ifD (fun hlt => ?_) (fun hge => ?_))
    · have hns : n < gs[i].pats.length := by omega
      have hget := flat2 (fun p : List UInt8 × Bool => Value.string (bs p.1)) (fun p => Value.bool p.2) gs[i].pats n hns
      rw [← rw_.pl] at hget
      obtain ⟨pd, ep, pc⟩ := G7.fam.some_of (x := xP i) (by intro e; rw [List.length_eq_zero_iff.1 e] at hget; simp at hget)
      have hps : pd.spot = none := by have := G7.fam.own (xP i); rw [ep] at this; exact this.2.1
      refine ldL_mk (o3.cells.at rfl) (idxA_mk n rfl hns ?_)
      rw [ep, Int.toNat_natCast]
      refine nn_mk (ldS_mk (pc.at hget.1) (ldB_mk (by rw [add_add hps]; exact pc.at hget.2) ?_))
      refine (ldS_mk (o7.cells.at0 rfl) (ldB_mk (o7.cells.at rfl) ?_))
      have eb2 : ((bs gs[i].pats[n].1 == bs p.1) && ((gs[i].pats[n].2 == p.2) && true)) = (gs[i].pats[n] == p) := by rw [bs_beq, Bool.and_true]; rfl
      rw [eb2]
      refine ifB (fun hf => ?_) (fun hf => ?_)
      · have hidx := findIdx_at (p := fun x : List UInt8 × Bool => x == p) hns hf hpre
        have hnr : n < gs[i].rules.length := by omega
        refine ldL_mk (o3.cells.at rfl) (idxA_mk n rfl hnr ?_)
        obtain ⟨rd, er, rc⟩ := G7.fam.some_of (x := xR i) (by rw [rw_.rl]; omega)
        rw [er]
        refine nn_mk (ldL_mk (by rw [Nat.mul_one]; exact rc.at (rw_.rg n hnr)) ?_)
        refine al_mk (vs := [.int .i64 k]) fun b h8 f8 hb8 o8 => ?_
        have es : (Try.t3).size = 1 := by kernel_rfl
        have eb : (Try.t3).bytes = 8 := by kernel_rfl
        have hil := rw_.il n hnr
        have hbd := sm4 _ (List.getElem_mem hnr)
        have f08 := f07.trans f8
        have s8 := f8.size
        have G8 := G.fr f08
        refine Fam.app el_int Try.underlying27 (by intro k e; cases e) G8.fam (xI i n) (by rw [es]; rfl) (by rw [hil.1]; simp [intsV, szG]) hil.2 (Src.one o8 (by rw [es]; rfl) 1) (by intro v hv; rw [List.mem_singleton.1 hv]; rfl) (by rw [eb]; omega) fun a' c' h9 F9 hc9 f9 hn9 => ⟨_, _, _, rfl, ?_⟩
        have t9 : Turned N h h9 sl (put sl (xI i n) a') := (Turned.of_fr f08).trans (Turned.of_app f9 hn9)
        have out9 : ∀ x b, InA (put sl (xI i n) a' x) b → b < h.size ∨ h8.size ≤ b := fun x b hb => by
          rcases (Turned.of_app (N := N) f9 hn9).old x b hb with ⟨y, hy⟩ | hy
          · exact .inl (hold y b hy)
          · exact .inr hy
        have o39 := (Own.fr0 f8 o3).fr f9 fun hi => by have := hold _ _ hi; omega
        have o69 := (Own.fr0 f8 o6).fr f9 fun hi => by have := hold _ _ hi; omega
        have nR : (xR i) ≠ xI i n := ix_ne (by decide) _ _ _ _
        have nO : xO ≠ xI i n := ix_ne (by decide) _ _ _ _
        have nOR : xO ≠ xR i := ix_ne (by decide) _ _ _ _
        refine ldL_mk (by rw [← er]; exact o39.cells.at rfl) (idxA_mk n rfl hnr (nn_mk ?_))
        rw [Nat.mul_one]
        refine F9.set (xR i) (by rw [put_ne _ _ nR]; exact er) (by rw [put_ne _ _ nR, rw_.rl]; exact hnr) rfl fun h10 F10 f10 => ?_
        have inR : ∀ b, InA (put sl (xI i n) a' (xR i)) b → b < h.size ∨ h8.size ≤ b := fun b hb => out9 _ b hb
        have o310 := o39.fr f10 fun hi => by have := inR _ hi; omega
        have o610 := o69.fr f10 fun hi => by have := inR _ hi; omega
        refine (ldI_mk (o310.cells.at0 rfl) (ldL_mk (o310.cells.at rfl) (ldL_mk (o310.cells.at rfl) (ldL_mk (o310.cells.at rfl) (ldL_mk (o310.cells.at rfl) ?_)))))
        refine stN_own o610 rfl rfl fun h11 f11 _ o11 => ?_
        refine (ldI_mk (o11.cells.at0 rfl) (ldL_mk (o11.cells.at rfl) (ldL_mk (o11.cells.at rfl) (ldL_mk (o11.cells.at rfl) (ldL_mk (o11.cells.at rfl) ?_)))))
        have F11 := F10.fr f11 fun x b hb e => by have := out9 x b hb; subst e; omega
        have t11 := (t9.trans (Turned.of_set f10)).new f11 (by omega)
        refine fin h11 _ _ _ [.int .i64 gs[i].kind, .slice (tr i).p (tr i).xs.length (tr i).cap, .slice (sl (xP i)) gs[i].pats.length (cap (xP i)), .slice (sl (xR i)) gs[i].rules.length (cap (xR i)), .slice (sl (xA i)) gs[i].always.length (cap (xA i))] F11 t11 (put_ne _ _ nO) (put_ne _ _ nO) (by rw [put_ne _ _ nOR, put_ne _ _ nO]) ⟨_, _, _, _, _, _, _, _, _, _, _, _, _, rfl⟩ fun h2 F2 t2 => ?_
        have e : gs.modify i (addG k r) = gs.modify i fun g => { g with rules := g.rules.modify n (· ++ [(k : Int)]) } := by
          refine modify_congr hi ?_
          unfold addG
          rw [hp]
          simp only
          rw [if_neg (by omega), hidx]
        have ec : ∀ (f : Ix → List Value), f xO = cs xO → put f xO (cs xO) = f := fun f hf => put_id hf
        rw [row_sets G hi, set_same rw_.o2, set_same rw_.o3, set_same rw_.o4, ec _ (by rw [put_ne _ _ nOR, put_ne _ _ nO])] at F2 ⊢
        rw [e]
        exact G.inner hi hnr k hc9 F2 t2
      · rw [wr (by omega) (by omega)]
        refine ⟨⟨n + 1, by omega, by omega, f7, fun j hj hjk => ?_⟩, by omega⟩
        by_cases e : j = n
        · subst e; exact hf
        · exact hpre j hj (by omega)
    · have en : n = gs[i].pats.length := by omega
      have hidx : gs[i].pats.findIdx (· == p) = gs[i].pats.length := findIdx_no fun j hj => hpre j hj (by omega)
      unfold ref46_add_b2
      refine ldL_mk (o3.cells.at rfl) ?_
      refine (ldS_mk (o7.cells.at0 rfl) (ldB_mk (o7.cells.at rfl) ?_))
      refine al_mk fun b h8 f8 hb8 o8 => ?_
      have es : (Try.t37).size = 2 := by kernel_rfl
      have eb : (Try.t37).bytes = 24 := by kernel_rfl
      have f08 := f07.trans f8
      have s8 := f8.size
      have G8 := G.fr f08
      refine Fam.app el_pat Try.underlying46 (by intro k e; cases e) G8.fam (xP i) (by rw [es]; rfl) (by rw [rw_.pl, flat2_len (fun p : List UInt8 × Bool => Value.string (bs p.1)) (fun p => Value.bool p.2)]; rfl) rw_.pc (Src.one o8 (by rw [es]; rfl) 1) (by intro v hv; simp at hv; rcases hv with rfl | rfl <;> rfl) (by rw [eb]; omega) fun a1 c1 h9 F9 hc9 f9 hn9 => ⟨_, _, _, rfl, ?_⟩
      have t9 : Turned N h h9 sl (put sl (xP i) a1) := (Turned.of_fr f08).trans (Turned.of_app f9 hn9)
      have out9 : ∀ x b, InA (put sl (xP i) a1 x) b → b < h.size ∨ h8.size ≤ b := fun x b hb => by
        rcases (Turned.of_app (N := N) f9 hn9).old x b hb with ⟨y, hy⟩ | hy
        · exact .inl (hold y b hy)
        · exact .inr hy
      have o39 := (Own.fr0 f8 o3).fr f9 fun hi => by have := hold _ _ hi; omega
      have o69 := (Own.fr0 f8 o6).fr f9 fun hi => by have := hold _ _ hi; omega
      refine st1_own o39 2 (show 2 < 5 by decide) rfl fun h10 f10 _ o310 => ?_
      have o610 := o69.fr f10 fun e => n36 e.symm
      have F10 := F9.fr f10 fun x b hb e => by have := out9 x b hb; subst e; omega
      have t10 := t9.new f10 (by omega)
      have s10 := f10.size
      have s9 := f9.size
      refine ldL_mk (o310.cells.at rfl) ?_
      refine al_mk (vs := [.int .i64 k]) fun tb h11 f11 hb11 o11 => ?_
      have nRP : xR i ≠ xP i := ix_ne (by decide) _ _ _ _
      have nIP : ∀ n, xI i n ≠ xP i := fun n => ix_ne (by decide) _ _ _ _
      have nIR : ∀ n, xI i n ≠ xR i := fun n => ix_ne (by decide) _ _ _ _
      have nRI : ∀ n, xR i ≠ xI i n := fun n => ix_ne (by decide) _ _ _ _
      have nPI : ∀ n, xP i ≠ xI i n := fun n => ix_ne (by decide) _ _ _ _
      have nPR : xP i ≠ xR i := ix_ne (by decide) _ _ _ _
      have nOP : xO ≠ xP i := ix_ne (by decide) _ _ _ _
      have nOR : xO ≠ xR i := ix_ne (by decide) _ _ _ _
      have nOI : ∀ n, xO ≠ xI i n := fun n => ix_ne (by decide) _ _ _ _
      have hfree := rw_.ifr gs[i].rules.length (Nat.le_refl _)
      have F11 := F10.turn (xI i gs[i].rules.length) (a' := some tb) (cap' := 1) (cs' := [.int .i64 k]) (h' := h11) ⟨o11.off, o11.spot, _, _, (0, 0), .inl rfl, o11.blk, by simp [szG], by simp, fun j hj => by simp at hj; subst hj; rfl⟩ (f11.mono fun _ h => h.elim) (fun b hb => .inr (by obtain ⟨ad, e, rfl⟩ := hb; cases e; omega))
      have t11 : Turned N h h11 sl (put (put sl (xP i) a1) (xI i gs[i].rules.length) (some tb)) := t10.trans (Turned.of_app (f11.mono fun _ h => h.elim) (fun b hb => .inr (by obtain ⟨ad, e, rfl⟩ := hb; cases e; omega)))
      have out11 : ∀ x b, InA (put (put sl (xP i) a1) (xI i gs[i].rules.length) (some tb) x) b → b < h.size ∨ h8.size ≤ b := fun x b hb => by
        by_cases e : x = xI i gs[i].rules.length
        · subst e; rw [put_self] at hb; obtain ⟨ad, e, rfl⟩ := hb; cases e; exact .inr (by omega)
        · rw [put_ne _ _ e] at hb; exact out9 x b hb
      refine al_mk (vs := [.slice (some tb) 1 1]) fun td h12 f12 hb12 o12 => ?_
      have F12 := F11.fr0 f12
      have s12 := (f11.trans f12).size
      have es2 : (Try.t27).size = 1 := by kernel_rfl
      have eb2 : (Try.t27).bytes = 24 := by kernel_rfl
      have eR : put (put sl (xP i) a1) (xI i gs[i].rules.length) (some tb) (xR i) = sl (xR i) := by rw [put_ne _ _ (nRI _), put_ne _ _ nRP]
      have eRc : put (put cap (xP i) c1) (xI i gs[i].rules.length) 1 (xR i) = cap (xR i) := by rw [put_ne _ _ (nRI _), put_ne _ _ nRP]
      have eRs : put (put cs (xP i) (cs (xP i) ++ [.string (bs p.1), .bool p.2])) (xI i gs[i].rules.length) [.int .i64 k] (xR i) = cs (xR i) := by rw [put_ne _ _ (nRI _), put_ne _ _ nRP]
      rw [← eR, ← eRc]
      refine Fam.app el_sl Try.underlying47 (by intro k e; cases e) F12 (xR i) (by rw [es2]; rfl) (by rw [eRs, rw_.rl]; simp [szG]) (by rw [eRc]; exact rw_.rc) (Src.one o12 (by rw [es2]; rfl) 1) (by intro v hv; rw [List.mem_singleton.1 hv]; rfl) (by rw [eb2]; omega) fun a2 c2 h13 F13 hc13 f13 hn13 => ⟨_, _, _, rfl, ?_⟩
      have t13 : Turned N h h13 sl (put (put (put sl (xP i) a1) (xI i gs[i].rules.length) (some tb)) (xR i) a2) := (t11.trans (Turned.of_fr f12)).trans (Turned.of_app f13 hn13)
      have out13 : ∀ x b, InA (put (put (put sl (xP i) a1) (xI i gs[i].rules.length) (some tb)) (xR i) a2 x) b → b < h.size ∨ h8.size ≤ b := fun x b hb => by
        rcases (Turned.of_app (N := N) f13 hn13).old x b hb with ⟨y, hy⟩ | hy
        · exact out11 y b hy
        · exact .inr (by omega)
      have inR : ∀ b, InA (put (put sl (xP i) a1) (xI i gs[i].rules.length) (some tb) (xR i)) b → b < h.size := fun b hb => by rw [eR] at hb; exact hold _ _ hb
      have o313 := (Own.fr0 (f11.trans f12) o310).fr f13 fun hi => by have := inR _ hi; omega
      have o613 := (Own.fr0 (f11.trans f12) o610).fr f13 fun hi => by have := inR _ hi; omega
      refine st1_own o313 3 (show 3 < 5 by decide) rfl fun h14 f14 _ o314 => ?_
      have o614 := o613.fr f14 fun e => n36 e.symm
      refine (ldI_mk (o314.cells.at0 rfl) (ldL_mk (o314.cells.at rfl) (ldL_mk (o314.cells.at rfl) (ldL_mk (o314.cells.at rfl) (ldL_mk (o314.cells.at rfl) ?_)))))
      refine stN_own o614 rfl rfl fun h15 f15 _ o15 => ?_
      refine (ldI_mk (o15.cells.at0 rfl) (ldL_mk (o15.cells.at rfl) (ldL_mk (o15.cells.at rfl) (ldL_mk (o15.cells.at rfl) (ldL_mk (o15.cells.at rfl) ?_)))))
      have F15 := (F13.fr f14 fun x b hb e => by have := out13 x b hb; subst e; omega).fr f15 fun x b hb e => by have := out13 x b hb; subst e; omega
      have t15 := (t13.new f14 (by omega)).new f15 (by omega)
      rw [put_comm sl (nPI _) a1 (some tb)] at F15 t15
      rw [put_comm cap (nPI _) c1 1] at F15
      refine fin h15 _ _ _ [.int .i64 gs[i].kind, .slice (tr i).p (tr i).xs.length (tr i).cap, .slice a1 (gs[i].pats.length + 1) c1, .slice a2 (gs[i].rules.length + 1) c2, .slice (sl (xA i)) gs[i].always.length (cap (xA i))] F15 t15
        (by rw [put_ne _ _ nOR, put_ne _ _ nOP, put_ne _ _ (nOI _)]) (by rw [put_ne _ _ nOR, put_ne _ _ nOP, put_ne _ _ (nOI _)]) (by rw [put_ne _ _ nOR, put_ne _ _ (nOI _), put_ne _ _ nOP]) ⟨_, _, _, _, _, _, _, _, _, _, _, _, _, rfl⟩ fun h2 F2 t2 => ?_
      have e : gs.modify i (addG k r) = gs.modify i fun g => { g with pats := g.pats ++ [p], rules := g.rules ++ [[(k : Int)]] } := by
        refine modify_congr hi ?_
        unfold addG
        rw [hp]
        simp only
        rw [if_pos hidx]
      rw [e]
      have nPO : xP i ≠ xO := fun e => nOP e.symm
      have nRO : xR i ≠ xO := fun e => nOR e.symm
      have nIO : ∀ n, xI i n ≠ xO := fun n e => nOI n e.symm
      refine G.pattern2 hi p k (c3 := 1) hc9 hc13 (by omega) (by rw [put_self, row_sets G hi, set_same (j := i * 5 + 4)]; rw [List.getElem?_set_ne (by omega), List.getElem?_set_ne (by omega)]; exact rw_.o4)
        (by rw [put_ne _ _ nPO, put_ne _ _ nPR, put_ne _ _ (nPI _), put_self]) (by rw [put_ne _ _ nRO, put_self, eRs]) (by rw [put_ne _ _ (nIO _), put_ne _ _ (nIR _), put_self])
        (fun x h0 h1 h2 h3 => by rw [put_ne _ _ h0, put_ne _ _ h2, put_ne _ _ h3, put_ne _ _ h1]) F2 t2
end
end Go.Proofs.Ytjelnknmjhceiaa
