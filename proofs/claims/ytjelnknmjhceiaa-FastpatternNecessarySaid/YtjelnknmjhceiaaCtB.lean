/-
  Package content: the search, Match.
-/
import Derived.Test.YtjelnknmjhceiaaCtA
namespace Go.Proofs.Ytjelnknmjhceiaa.Au
set_option linter.unusedSimpArgs false
set_option linter.unusedVariables false
set_option maxRecDepth 20000
open Go
open Go.IntKind (wrap)
/-- What a search gives: the end, the steps left, whether they did not suffice. -/
abbrev Res := Option Int × Nat × Bool
def places (d : Nm) (c : Cn) (k : Int → Nat → Res) (after : Nat → Res) : Nat → Int → Nat → Res
  | 0, _, left => after left
  | n + 1, p, left =>
    if left = 0 then (none, 0, true)
    else if atB c d p = true then
      if c.Not = true then (none, left - 1, false)
      else if (k (p + c.Pattern.length) (left - 1)).2.2 = true then (none, (k (p + c.Pattern.length) (left - 1)).2.1, true)
      else if (k (p + c.Pattern.length) (left - 1)).1.isSome = true then k (p + c.Pattern.length) (left - 1)
      else places d c k after n (p + 1) (k (p + c.Pattern.length) (left - 1)).2.1
    else places d c k after n (p + 1) (left - 1)
def solve (d : Nm) (ts : List Ts) : List Cn → Int → Nat → Res
  | [], cur, left => (if ts.all (fun t => testL t d cur) = true then some cur else none, left, false)
  | c :: cs, cur, left => places d c (solve d ts cs) (fun left => if c.Not = true then solve d ts cs cur left else (none, left, false)) ((boundsL c d.length cur).2 - (boundsL c d.length cur).1 + 1).toNat (boundsL c d.length cur).1 left
theorem places_ok {d : Nm} {c : Cn} {k : Int → Nat → Res} {after : Nat → Res} (hk : ∀ p l, (k p l).2.1 ≤ l ∧ ((k p l).2.2 = true → (k p l).1 = none)) (ha : ∀ l, (after l).2.1 ≤ l ∧ ((after l).2.2 = true → (after l).1 = none)) :
    ∀ n p l, (places d c k after n p l).2.1 ≤ l ∧ ((places d c k after n p l).2.2 = true → (places d c k after n p l).1 = none)
  | 0, p, l => ha l
  | n + 1, p, l => by
    unfold places
    split
    · exact ⟨Nat.zero_le _, fun _ => rfl⟩
    · split
      · split
        · exact ⟨by simp, fun _ => rfl⟩
        · have h1 := hk (p + c.Pattern.length) (l - 1)
          split
          · exact ⟨by simp only; omega, fun _ => rfl⟩
          · split
            · exact ⟨by omega, h1.2⟩
            · have := places_ok (d := d) (c := c) hk ha n (p + 1) (k (p + c.Pattern.length) (l - 1)).2.1
              exact ⟨by omega, this.2⟩
      · have := places_ok (d := d) (c := c) hk ha n (p + 1) (l - 1)
        exact ⟨by omega, this.2⟩
theorem solve_ok (d : Nm) (ts : List Ts) : ∀ (cs : List Cn) (cur : Int) (l : Nat), (solve d ts cs cur l).2.1 ≤ l ∧ ((solve d ts cs cur l).2.2 = true → (solve d ts cs cur l).1 = none)
  | [], cur, l => ⟨Nat.le_refl _, by simp [solve]⟩
  | c :: cs, cur, l => by
    unfold solve
    refine places_ok (fun p l => solve_ok d ts cs p l) (fun l => ?_) _ _ _
    split
    · exact solve_ok d ts cs cur l
    · exact ⟨Nat.le_refl _, fun h => by simp at h⟩
def resV (r : Res) : Value := .tuple #[.int .i64 (r.1.getD 0), .bool r.1.isSome]
/-- A search in memory; all that it writes lies at N or behind. -/
structure SrF (N : Nat) (h : Heap) (s : Addr) (l : Sl Cn) (t : Sl Ts) (d : Nm) (bud left : Nat) (over : Bool) : Prop where
  own : Own h s [.slice l.p l.xs.length l.cap, .slice t.p t.xs.length t.cap, .string (bs d), .int .i64 bud, .int .i64 (bud - left : Nat), .bool over] T_content_search
  le : left ≤ bud
  n : N ≤ s.block
  sz : N ≤ h.size
  rd : ∀ h', Fr (fun x => N ≤ x) h h' → SlOk 7 S_api_Content.vals S_api_Content.ok h' l ∧ SlOk 7 S_api_Test.vals S_api_Test.ok h' t
section
variable {N : Nat} {h : Heap} {s : Addr} {l : Sl Cn} {t : Sl Ts} {d : Nm} {bud left : Nat} {over : Bool}
theorem SrF.fr {S : Nat → Prop} {h' : Heap} (F : SrF N h s l t d bud left over) (f : Fr S h h') (h1 : ¬ S s.block) (h2 : ∀ x, x < h.size → S x → N ≤ x) : SrF N h' s l t d bud left over :=
  ⟨F.own.fr f h1, F.le, F.n, Nat.le_trans F.sz f.size, fun h3 f3 => F.rd h3 ((f.mono' h2).trans f3)⟩
theorem SrF.fr0 {h' : Heap} (f : Fr (fun _ => False) h h') (F : SrF N h s l t d bud left over) : SrF N h' s l t d bud left over := F.fr f id fun _ _ h => h.elim
/-- One comparison. -/
theorem compare_c [Gh] (F : SrF N h s l t d bud left false) (hb : bud ≤ 2 ^ 40) (c : Cn) (p : Int) (hc : c.Pattern.length ≤ 2 ^ 40) (hd : d.length ≤ 2 ^ 40) {Q : Value → Heap → Prop}
    (h0 : left = 0 → ∀ h', Fr (fun x => x = s.block) h h' → SrF N h' s l t d bud 0 true → Q (.bool false) h')
    (hk : left ≠ 0 → ∀ h', Fr (fun x => x = s.block) h h' → SrF N h' s l t d bud (left - 1) false → Q (.bool (atB c d p)) h') :
    CallT Try.prog fn_content_search_compare #[.pointer (some s), .agg c.vals.toArray, .int .i64 p] h Q := by
  apply content_search_compare_s
  unfold content_search_compare_v
  have hle := F.le
  refine al_mk (vs := c.vals) fun t4 h1 f1 e1 o1 => ?_
  have F1 := F.fr0 f1
  have lt := F.own.lt
  have cs := F1.own.cells
  refine nn_mk (ldI_mk (cs.at (j := 4) rfl) (nn_mk (ldI_mk (cs.at (j := 3) rfl) (ifD (fun e => ?_) fun e => ?_))))
  · have e0 : left = 0 := by omega
    subst e0
    refine nn_mk (st1_own F1.own 5 (by simp) rfl fun h2 f2 s2 o2 => ?_)
    exact h0 rfl h2 ((f1.mono fun _ h => h.elim).trans f2) ⟨o2, F1.le, F1.n, Nat.le_trans F1.sz f2.size, fun h3 f3 => F1.rd h3 ((f2.mono fun x hx => by have := F1.n; subst hx; exact this).trans f3)⟩
  · have hn : left ≠ 0 := fun h => by subst h; omega
    refine nn_mk (ldI_mk (cs.at (j := 4) rfl) (nn_mk ?_))
    rw [wr (by omega) (by omega)]
    refine st1_own F1.own 4 (by simp) rfl fun h2 f2 s2 o2 => ?_
    have es : ((bud - left : Nat) : Int) + 1 = ((bud - (left - 1) : Nat) : Int) := by omega
    rw [es] at o2
    have F2 : SrF N h2 s l t d bud (left - 1) false := ⟨o2, by omega, F1.n, Nat.le_trans F1.sz f2.size, fun h3 f3 => F1.rd h3 ((f2.mono fun x hx => by have := F1.n; subst hx; exact this).trans f3)⟩
    have cc : Cells h2 t4 c.vals := o1.cells.fr f2 fun hh => by omega
    have cs2 := F2.own.cells
    refine ldS_mk (cc.at0 rfl) (ldB_mk (cc.at (j := 1) rfl) (ldB_mk (cc.at (j := 2) rfl) (ldB_mk (cc.at (j := 3) rfl) (ldI_mk (cc.at (j := 4) rfl) (ldI_mk (cc.at (j := 5) rfl) (ldB_mk (cc.at (j := 6) rfl) (nn_mk (ldS_mk (cs2.at (j := 2) rfl) ?_))))))))
    refine At_c c d p hc hd fun h3 f3 => ⟨_, rfl, ?_⟩
    exact hk hn h3 (((f1.mono fun _ h => h.elim).trans f2).trans (f3.mono fun _ h => h.elim)) (F2.fr0 f3)
theorem tests_c [Gh] (F : SrF N h s l t d bud left false) (hd : d.length ≤ 2 ^ 30) (hot : ∀ x ∈ t.xs, OkT x) {sp : Addr} (hsp : Own h sp [.pointer (some s)] T_p_content_search) (cur : Int) (hcur : 0 ≤ cur ∧ cur ≤ 2147483648) {Q : Value → Heap → Prop} {Kn : Int → Heap → Prop}
    (hk : ∀ h', Fr (fun _ => False) h h' → Q (resV (if t.xs.all (fun t => testL t d cur) = true then some cur else none, left, false)) h') :
    LoopV (fun (s : Int) h Kn => content_search_from_l3 cur sp t.p t.xs.length t.cap ((t.xs.length : Nat) : Int) Q s h Kn) 0 h := by
  have hcap := (F.rd h (Fr.refl _ _)).2.cap
  refine LoopV.go (fun n st h' => ∃ i : Nat, st = (i : Int) ∧ i ≤ t.xs.length ∧ n = t.xs.length - i ∧ Fr (fun _ => False) h h' ∧ (t.xs.take i).all (fun t => testL t d cur) = true) t.xs.length ⟨0, rfl, by omega, rfl, Fr.refl _ _, by simp⟩ ?_
  rintro n - h1 ⟨i, rfl, hi, rfl, f1, ha⟩ Kn hK
  unfold content_search_from_l3
  refine ifD (fun e => ?_) fun e => ?_
  · have hil : i < t.xs.length := by omega
    have F1 := F.fr0 f1
    have tk := hot _ (List.getElem_mem hil)
    have hall : (t.xs.take (i + 1)).all (fun t => testL t d cur) = ((t.xs.take i).all (fun t => testL t d cur) && testL t.xs[i] d cur) := by
      rw [show t.xs.take (i + 1) = t.xs.take i ++ [t.xs[i]] by rw [List.take_append_getElem], List.all_append]; simp
    refine idx_sl (F1.rd h1 (Fr.refl _ _)).2 i rfl hil fun ad ct _ => ?_
    rw [Int.toNat_natCast]
    refine ldI_mk (ct.at0 rfl) (ldI_mk (ct.at (j := 1) rfl) (ldI_mk (ct.at (j := 2) rfl) (ldI_mk (ct.at (j := 3) rfl) (ldB_mk (ct.at (j := 4) rfl) (ldB_mk (ct.at (j := 5) rfl) (ldB_mk (ct.at (j := 6) rfl) ?_))))))
    refine al_mk (vs := [.int .i64 0, .int .i64 0, .int .i64 0, .int .i64 0, .bool false, .bool false, .bool false]) fun t9 h2 f2 e2 o2 => ?_
    refine stN_own o2 (ws := t.xs[i].vals) (by rfl) (by rfl) fun h3 f3 s3 o3 => ?_
    have f13 : Fr (fun _ => False) h1 h3 := f2.tr f3 fun b hb hi => by omega
    have c3 := o3.cells
    refine ldI_mk (c3.at0 rfl) (ldI_mk (c3.at (j := 1) rfl) (ldI_mk (c3.at (j := 2) rfl) (ldI_mk (c3.at (j := 3) rfl) (ldB_mk (c3.at (j := 4) rfl) (ldB_mk (c3.at (j := 5) rfl) (ldB_mk (c3.at (j := 6) rfl) ?_))))))
    have F3 := F1.fr0 f13
    refine ldP_mk (((hsp.fr0 f1).fr0 f13).cells.at0 rfl) (nn_mk (ldS_mk (F3.own.cells.at (j := 2) rfl) ?_))
    refine Test_c t.xs[i] d cur tk hcur hd fun h4 f4 => ⟨_, rfl, ?_⟩
    have f14 := f13.trans f4
    refine ifN (fun e3 => ?_) fun e3 => ?_
    · have := hk h4 (f1.trans f14)
      have hn : t.xs.all (fun t => testL t d cur) = false := by
        rw [List.all_eq_false]
        exact ⟨t.xs[i], List.getElem_mem hil, by rw [e3]; decide⟩
      rw [hn, if_neg (by decide)] at this
      exact this
    · rw [wr (by omega) (by omega)]
      exact hK (t.xs.length - (i + 1)) _ _ (by omega) ⟨i + 1, rfl, hil, rfl, f1.trans f14, by rw [hall, ha, e3]; rfl⟩
  · have : i = t.xs.length := by omega
    subst this
    rw [List.take_length] at ha
    have := hk h1 f1
    rw [if_pos ha] at this
    exact this
theorem bounds_fst (c : Cn) (ok : OkC c) (size cur : Int) (hs : 0 ≤ size) (hcur : 0 ≤ cur ∧ cur ≤ 2147483648) : 0 ≤ (boundsL c size cur).1 ∧ (boundsL c size cur).1 ≤ 3221225472 ∧ (boundsL c size cur).2 + c.Pattern.length ≤ size + 2 ^ 20 ∧ ((boundsL c size cur).1 ≤ (boundsL c size cur).2 → (boundsL c size cur).2 + c.Pattern.length ≤ size) ∧ -1 ≤ (boundsL c size cur).2 := by
  have k1 := ok.o1
  have k2 := ok.o2
  have k3 := ok.d1
  have k5 := ok.p
  have hlo : loL c cur ≤ 3221225472 := by unfold loL; split <;> omega
  have hhi : hiL c size cur ≤ size := by unfold hiL; split <;> (try split) <;> omega
  unfold boundsL
  split
  · exact ⟨by simp, by simp, by simp only; omega, by simp, by simp⟩
  · rename_i hh
    have ht : 0 ≤ topL c cur := by unfold topL; split <;> omega
    have ht2 : topL c cur ≤ 3221225472 := by unfold topL; split <;> omega
    exact ⟨ht, ht2, by simp only; omega, fun _ => by simp only; omega, by simp only; omega⟩
theorem from_c [Gh] (hb : bud ≤ 2 ^ 40) (hd : d.length ≤ 2 ^ 30) (hoc : ∀ x ∈ l.xs, OkC x) (hot : ∀ x ∈ t.xs, OkT x) : ∀ (rest : List Cn) (i : Nat), i ≤ l.xs.length → l.xs.drop i = rest → ∀ (cur : Int), 0 ≤ cur ∧ cur ≤ d.length → ∀ {h : Heap} {left : Nat}, SrF N h s l t d bud left false → ∀ {Q : Value → Heap → Prop},
    (∀ h', Fr (fun x => x = s.block) h h' → SrF N h' s l t d bud (solve d t.xs rest cur left).2.1 (solve d t.xs rest cur left).2.2 → Q (resV (solve d t.xs rest cur left)) h') →
    CallT Try.prog fn_content_search_from #[.pointer (some s), .int .i64 (i : Int), .int .i64 cur] h Q := by
  intro rest
  induction rest with
  | nil =>
    intro i hil he cur hcur h left F Q hk
    have hi : i = l.xs.length := by have := List.drop_eq_nil_iff.1 he; omega
    apply content_search_from_s
    unfold content_search_from_v
    refine al_mk (vs := [.pointer (some s)]) fun t3 h1 f1 e1 o1 => ?_
    refine al_mk (vs := [.int .i64 (i : Int)]) fun t4 h2 f2 e2 o2 => ?_
    have f12 := f1.trans f2
    have F2 := F.fr0 f12
    have o12 := o1.fr0 f2
    have c2 := F2.own.cells
    unfold content_search_from_b2
    refine ldI_mk (o2.cells.at0 rfl) (ldP_mk (o12.cells.at0 rfl) (nn_mk (ldL_mk (c2.at0 rfl) ?_)))
    rw [if_pos (by rw [hi]; simp)]
    refine ldP_mk (o12.cells.at0 rfl) (nn_mk (ldL_mk (c2.at (j := 1) rfl) ?_))
    refine tests_c (Kn := fun _ _ => True) F2 hd hot o12 cur ⟨hcur.1, by omega⟩ fun h3 f3 => ?_
    exact hk h3 ((f12.trans f3).mono fun _ h => h.elim) (F2.fr0 f3)
  | cons c rest ih =>
    intro i hil he cur hcur h left F Q hk
    have hi : i < l.xs.length := by
      rcases Nat.lt_or_ge i l.xs.length with h | h
      · exact h
      · rw [List.drop_of_length_le h] at he; cases he
    obtain ⟨ec, er⟩ : l.xs[i] = c ∧ l.xs.drop (i + 1) = rest := by
      rw [List.drop_eq_getElem_cons hi] at he
      injection he with h1 h2; exact ⟨h1, h2⟩
    have okc : OkC c := by rw [← ec]; exact hoc _ (List.getElem_mem hi)
    have hlen := (F.rd h (Fr.refl _ _)).1.cap
    apply content_search_from_s
    unfold content_search_from_v
    refine al_mk (vs := [.pointer (some s)]) fun t3 h1 f1 e1 o1 => ?_
    have z1 := f1.size
    have l1 := o1.lt
    refine al_mk (vs := [.int .i64 (i : Int)]) fun t4 h2 f2 e2 o2 => ?_
    have z2 := f2.size
    have l2 := o2.lt
    have f12 := f1.trans f2
    have F2 := F.fr0 f12
    have o12 := o1.fr0 f2
    have ls := F.own.lt
    have c2 := F2.own.cells
    have hSN := F.sz
    unfold content_search_from_b2
    refine ldI_mk (o2.cells.at0 rfl) (ldP_mk (o12.cells.at0 rfl) (nn_mk (ldL_mk (c2.at0 rfl) ?_)))
    rw [if_neg (by simp; omega)]
    unfold content_search_from_b4
    refine ldP_mk (o12.cells.at0 rfl) (nn_mk (ldL_mk (c2.at0 rfl) (ldI_mk (o2.cells.at0 rfl) ?_)))
    refine idx_sl (F2.rd h2 (Fr.refl _ _)).1 i rfl hi fun ad cc _ => ?_
    rw [Int.toNat_natCast]
    rw [ec] at cc
    refine ldS_mk (cc.at0 rfl) (ldB_mk (cc.at (j := 1) rfl) (ldB_mk (cc.at (j := 2) rfl) (ldB_mk (cc.at (j := 3) rfl) (ldI_mk (cc.at (j := 4) rfl) (ldI_mk (cc.at (j := 5) rfl) (ldB_mk (cc.at (j := 6) rfl) ?_))))))
    refine al_mk (vs := [.string (bs []), .bool false, .bool false, .bool false, .int .i64 0, .int .i64 0, .bool false]) fun t10 h3 f3 e3 o3 => ?_
    have z3 := f3.size
    have l3 := o3.lt
    have cc3 := cc.fr0 f3
    have c3 := (F2.fr0 f3).own.cells
    refine ⟨ldP_mk ((o12.fr0 f3).cells.at0 rfl) rfl, ldL_mk (c3.at0 rfl) rfl, ldI_mk ((o2.fr0 f3).cells.at0 rfl) rfl, ldS_mk (cc3.at0 rfl) (ldB_mk (cc3.at (j := 1) rfl) (ldB_mk (cc3.at (j := 2) rfl) (ldB_mk (cc3.at (j := 3) rfl) (ldI_mk (cc3.at (j := 4) rfl) (ldI_mk (cc3.at (j := 5) rfl) (ldB_mk (cc3.at (j := 6) rfl) rfl)))))), ?_⟩
    refine stN_own o3 (ws := c.vals) (by rfl) (by rfl) fun h4 f4 s4 o4 => ?_
    have f24 : Fr (fun _ => False) h2 h4 := f3.tr f4 fun b hb hi => by omega
    have z4 := f24.size
    have l4 := o4.lt
    have k4 : Cells h4 t10 c.vals := o4.cells
    have F4 := F2.fr0 f24
    have o14 := o12.fr0 f24
    have o24 := o2.fr0 f24
    have c4 := F4.own.cells
    refine ldS_mk (k4.at0 rfl) (ldB_mk (k4.at (j := 1) rfl) (ldB_mk (k4.at (j := 2) rfl) (ldB_mk (k4.at (j := 3) rfl) (ldI_mk (k4.at (j := 4) rfl) (ldI_mk (k4.at (j := 5) rfl) (ldB_mk (k4.at (j := 6) rfl) ?_))))))
    refine ldP_mk (o14.cells.at0 rfl) (nn_mk (ldS_mk (c4.at (j := 2) rfl) ?_))
    rw [bs_size]
    have bd := bounds_fst c okc d.length cur (by omega) ⟨hcur.1, by omega⟩
    unfold solve at hk
    have Bc : ∀ {h : Heap} {Q : Value → Heap → Prop}, (∀ h', Fr (fun _ => False) h h' → Q (.tuple #[.int .i64 (boundsL c d.length cur).1, .int .i64 (boundsL c d.length cur).2]) h') → CallT Try.prog fn_content_Bounds #[.agg c.vals.toArray, .int .i64 ((d.length : Nat) : Int), .int .i64 cur] h Q := fun hq => Bounds_c c _ cur okc ⟨by omega, by omega⟩ ⟨hcur.1, by omega⟩ hq
    generalize (boundsL c d.length cur).1 = lo at *
    generalize (boundsL c d.length cur).2 = hi' at *
    -- the places
    have tail : ∀ (t11 : Addr) (h5 : Heap), Fr (fun _ => False) h4 h5 → h4.size ≤ t11.block → Own h5 t11 [.int .i64 lo] T_int →
        LoopV (fun (s : Addr × Addr × Int × Addr × Addr × Addr × Addr) h Kn => content_search_from_l1 cur t3 t4 Q s.1 s.2.1 s.2.2.1 s.2.2.2.1 s.2.2.2.2.1 s.2.2.2.2.2.1 s.2.2.2.2.2.2 h Kn) (t10, t11, hi', t3, t10, t11, t4) h5 := fun t11 h5 f45 hb11 o11 => by
      have z5 := f45.size
      have l11 := o11.lt
      refine LoopV.go (fun n st h' => ∃ (p : Int) (lf : Nat), st = (t10, t11, hi', t3, t10, t11, t4) ∧ n = (hi' - p + 1).toNat ∧ 0 ≤ p ∧ lo ≤ p ∧ p ≤ 2 ^ 40 ∧ Fr (fun x => x = s.block ∨ x = t11.block) h5 h' ∧ Own h' t11 [.int .i64 p] T_int ∧ SrF N h' s l t d bud lf false ∧
          places d c (solve d t.xs rest) (fun left => if c.Not = true then solve d t.xs rest cur left else (none, left, false)) (hi' - lo + 1).toNat lo left = places d c (solve d t.xs rest) (fun left => if c.Not = true then solve d t.xs rest cur left else (none, left, false)) (hi' - p + 1).toNat p lf) (hi' - lo + 1).toNat
        ⟨lo, left, rfl, rfl, bd.1, by omega, by omega, Fr.refl _ _, o11, F4.fr0 f45, rfl⟩ ?_
      rintro n - h6 ⟨p, lf, rfl, rfl, hp0, hlp, hp2, f6, o6, F6, heq⟩ Kn hK
      dsimp only
      unfold content_search_from_l1
      rw [heq] at hk
      have z6 := f6.size
      have F46 : Fr (fun x => x = s.block ∨ x = t11.block) h4 h6 := (f45.mono fun _ h => h.elim).trans f6
      have k6 : Cells h6 t10 c.vals := k4.fr F46 fun hh => by rcases hh with h | h <;> omega
      have o16 := o14.fr F46 fun hh => by rcases hh with h | h <;> omega
      have o26 := o24.fr F46 fun hh => by rcases hh with h | h <;> omega
      have F06 : Fr (fun x => x = s.block) h h6 := ((f12.trans f24).mono fun _ h => h.elim).tr F46 fun x hx hh => by
        rcases hh with h | h
        · exact h
        · omega
      refine ldI_mk (o6.cells.at0 rfl) (ifD (fun e5 => ?_) fun e5 => ?_)
      · -- no place left
        rw [show (hi' - p + 1).toNat = 0 by omega] at hk
        unfold places at hk
        refine ldB_mk (k6.at (j := 2) rfl) (ifB (fun e6 => ?_) fun e6 => ?_)
        · rw [if_pos e6] at hk
          refine ldP_mk (o16.cells.at0 rfl) (ldI_mk (o26.cells.at0 rfl) ?_)
          rw [wr (by omega) (by omega)]
          refine ih (i + 1) hi er cur hcur F6 fun h7 f7 F7 => ⟨_, _, rfl, ?_⟩
          exact hk h7 (F06.trans f7) F7
        · rw [if_neg (by rw [e6]; decide)] at hk
          exact hk h6 F06 F6
      · obtain ⟨m, hm⟩ : ∃ m, (hi' - p + 1).toNat = m + 1 := ⟨(hi' - p).toNat, by omega⟩
        rw [hm] at hk
        have hpl := bd.2.2.2.1 (by omega)
        unfold places at hk
        have hm' : (hi' - (p + 1) + 1).toNat = m := by omega
        apply content_search_from_1_s
        unfold content_search_from_1_v
        refine ldP_mk (o16.cells.at0 rfl) (ldS_mk (k6.at0 rfl) (ldB_mk (k6.at (j := 1) rfl) (ldB_mk (k6.at (j := 2) rfl) (ldB_mk (k6.at (j := 3) rfl) (ldI_mk (k6.at (j := 4) rfl) (ldI_mk (k6.at (j := 5) rfl) (ldB_mk (k6.at (j := 6) rfl) (ldI_mk (o6.cells.at0 rfl) ?_))))))))
        -- what comes after the step, from a search that goes on at the next place
        have next : ∀ (h7 : Heap) (lf' : Nat), Fr (fun x => x = s.block) h6 h7 → SrF N h7 s l t d bud lf' false → places d c (solve d t.xs rest) (fun left => if c.Not = true then solve d t.xs rest cur left else (none, left, false)) (hi' - p + 1).toNat p lf = places d c (solve d t.xs rest) (fun left => if c.Not = true then solve d t.xs rest cur left else (none, left, false)) m (p + 1) lf' →
            ldI h7 t11 .i64 fun t93 => st1 h7 t11 (.int .i64 (wrap .i64 (t93 + 1))) fun h13 => Kn (t10, t11, hi', t3, t10, t11, t4) h13 := fun h7 lf' f7 F7 hpq => by
          have o7 := o6.fr f7 fun hh => by omega
          refine ldI_mk (o7.cells.at0 rfl) ?_
          rw [wr (by omega) (by omega)]
          refine st1_own0 o7 (by simp) rfl fun h8 f8 s8 o8 => ?_
          refine hK m _ _ (by omega) ⟨p + 1, lf', rfl, hm'.symm, by omega, by omega, by omega, (f6.trans (f7.mono fun x hx => .inl hx)).trans (f8.mono fun x hx => .inr hx), o8, F7.fr f8 (fun hh => by omega) (fun x hx hh => by omega), ?_⟩
          rw [heq, hpq, hm']
        have okp := okc.p
        refine compare_c F6 hb c p (by omega) (by omega) (fun e7 h7 f7 F7 => ⟨_, rfl, ?_⟩) fun e7 h7 f7 F7 => ⟨_, rfl, ?_⟩
        · rw [if_pos (by rfl)]
          subst e7
          rw [if_pos rfl] at hk
          have o17 := o16.fr f7 fun hh => by omega
          refine ⟨_, _, rfl, ldP_mk (o17.cells.at0 rfl) (nn_mk (ldB_mk (F7.own.cells.at (j := 5) rfl) ?_))⟩
          rw [if_pos rfl]
          exact hk h7 (F06.trans f7) F7
        · rw [if_neg e7] at hk
          have o17 := o16.fr f7 fun hh => by omega
          have o27 := o26.fr f7 fun hh => by omega
          have o67 := o6.fr f7 fun hh => by omega
          have k7 : Cells h7 t10 c.vals := k6.fr f7 fun hh => by omega
          refine ifN (fun e8 => ?_) fun e8 => ?_
          · refine ⟨_, _, rfl, ldP_mk (o17.cells.at0 rfl) (nn_mk (ldB_mk (F7.own.cells.at (j := 5) rfl) ?_))⟩
            rw [if_neg (by decide)]
            have nx := next h7 (lf - 1) f7 F7 (by rw [hm]; conv => lhs; unfold places
                                                  rw [if_neg e7, if_neg (by rw [e8]; decide)])
            refine ldB_mk (k7.at (j := 2) rfl) (ifB (fun _ => ?_) fun _ => ?_)
            · rw [if_neg (by decide), if_neg (by decide)]; exact nx
            · rw [if_neg (by decide)]; exact nx
          · rw [if_pos e8] at hk
            refine ldB_mk (k7.at (j := 2) rfl) (ifB (fun e9 => ?_) fun e9 => ?_)
            · rw [if_pos e9] at hk
              refine ⟨_, _, rfl, ldP_mk (o17.cells.at0 rfl) (nn_mk (ldB_mk (F7.own.cells.at (j := 5) rfl) ?_))⟩
              rw [if_neg (by decide)]
              refine ldB_mk (k7.at (j := 2) rfl) ?_
              rw [if_pos e9, if_pos rfl]
              exact hk h7 (F06.trans f7) F7
            · rw [if_neg (by rw [e9]; decide)] at hk
              refine ldP_mk (o17.cells.at0 rfl) (ldI_mk (o27.cells.at0 rfl) (ldI_mk (o67.cells.at0 rfl) (ldS_mk (k7.at0 rfl) ?_)))
              rw [bs_size, wr (x := (i : Int) + 1) (by omega) (by omega), wr (by omega) (by omega)]
              refine ih (i + 1) hi er (p + c.Pattern.length) ⟨by omega, by omega⟩ F7 fun h8 f8 F8 => ⟨_, _, rfl, _, _, rfl, ?_⟩
              have f68 := f7.trans f8
              have o18 := o17.fr f8 fun hh => by omega
              have k8 : Cells h8 t10 c.vals := k7.fr f8 fun hh => by omega
              have sok := solve_ok d t.xs rest (p + c.Pattern.length) (lf - 1)
              refine ldP_mk (o18.cells.at0 rfl) (nn_mk (ldB_mk (F8.own.cells.at (j := 5) rfl) (ifB (fun e10 => ?_) fun e10 => ?_)))
              · rw [if_pos e10] at hk
                rw [e10] at F8
                exact hk h8 (F06.trans f68) F8
              · rw [if_neg (by rw [e10]; decide)] at hk
                refine ldB_mk (k8.at (j := 2) rfl) ?_
                rw [if_neg (by rw [e9]; decide)]
                refine ifB (fun e11 => ?_) fun e11 => ?_
                · rw [if_pos e11] at hk
                  have := hk h8 (F06.trans f68) F8
                  unfold resV at this
                  rw [e11] at this; exact this
                · rw [e10] at F8
                  exact next h8 _ f68 F8 (by rw [hm]; conv => lhs; unfold places
                                             rw [if_neg e7, if_pos e8, if_neg (by rw [e9]; decide), if_neg (by rw [e10]; decide), if_neg (by rw [e11]; decide)])
    refine ⟨Bc fun h5 f5 => ⟨_, _, rfl, ?_⟩, ?_⟩
    · have z5 := f5.size
      refine al_mk (vs := [.int .i64 0]) fun t11 h6 f6 e6 o6 => ?_
      have f46 := f5.trans f6
      have k6 := k4.fr0 f46
      have c6 := (F4.fr0 f46).own.cells
      refine ⟨ldS_mk (k6.at0 rfl) (ldB_mk (k6.at (j := 1) rfl) (ldB_mk (k6.at (j := 2) rfl) (ldB_mk (k6.at (j := 3) rfl) (ldI_mk (k6.at (j := 4) rfl) (ldI_mk (k6.at (j := 5) rfl) (ldB_mk (k6.at (j := 6) rfl) rfl)))))), ldP_mk ((o14.fr0 f46).cells.at0 rfl) rfl, ldS_mk (c6.at (j := 2) rfl) rfl, ?_⟩
      refine st1_own0 o6 (by simp) rfl fun h7 f7 s7 o7 => ?_
      exact tail t11 h7 (f46.tr f7 fun x hx hh => by omega) (by omega) o7
    · refine al_mk (vs := [.int .i64 0]) fun t11 h6 f6 e6 o6 => ?_
      have k6 := k4.fr0 f6
      have c6 := (F4.fr0 f6).own.cells
      refine ⟨ldS_mk (k6.at0 rfl) (ldB_mk (k6.at (j := 1) rfl) (ldB_mk (k6.at (j := 2) rfl) (ldB_mk (k6.at (j := 3) rfl) (ldI_mk (k6.at (j := 4) rfl) (ldI_mk (k6.at (j := 5) rfl) (ldB_mk (k6.at (j := 6) rfl) rfl)))))), ldP_mk ((o14.fr0 f6).cells.at0 rfl) rfl, ldS_mk (c6.at (j := 2) rfl) rfl, ?_⟩
      refine Bc fun h7 f7 => ⟨_, _, rfl, ?_⟩
      refine st1_own0 (o6.fr0 f7) (by simp) rfl fun h8 f8 s8 o8 => ?_
      have f67 := f6.trans f7
      exact tail t11 h8 (f67.tr f8 fun x hx hh => by omega) (by omega) o8
end
/-- What Match answers. -/
def matchV (d : Nm) (cs : List Cn) (ts : List Ts) (bud : Nat) : Value :=
  if (solve d ts cs 0 bud).2.2 = true then .tuple #[.bool false, .int .i64 0, .int .i64 bud, .int .i64 16]
  else .tuple #[.bool (solve d ts cs 0 bud).1.isSome, .int .i64 ((solve d ts cs 0 bud).1.getD 0), .int .i64 (bud - (solve d ts cs 0 bud).2.1 : Nat), .int .i64 0]
theorem Match_c [Gh] {h : Heap} (l : Sl Cn) (t : Sl Ts) (d : Nm) (bud : Int) (hl : SlOk 7 S_api_Content.vals S_api_Content.ok h l) (ht : SlOk 7 S_api_Test.vals S_api_Test.ok h t) (hb : bud ≤ 2 ^ 40) (hd : d.length ≤ 2 ^ 30) (hoc : ∀ x ∈ l.xs, OkC x) (hot : ∀ x ∈ t.xs, OkT x) {Q : Value → Heap → Prop}
    (hk : ∀ h', Fr (fun _ => False) h h' → Q (matchV d l.xs t.xs bud.toNat) h') :
    CallT Try.prog fn_content_Match #[.slice l.p l.xs.length l.cap, .slice t.p t.xs.length t.cap, .string (bs d), .int .i64 bud] h Q := by
  apply content_Match_s
  unfold content_Match_v
  have eb : (if (0 : Int) > bud then (0 : Int) else bud) = (bud.toNat : Int) := by split <;> omega
  rw [eb]
  refine al_mk (vs := [.slice l.p l.xs.length l.cap, .slice t.p t.xs.length t.cap, .string (bs d), .int .i64 (bud.toNat : Int), .int .i64 0, .bool false]) fun s h1 f1 e1 o1 => ?_
  have z1 := f1.size
  have o1' : Own h1 s [.slice l.p l.xs.length l.cap, .slice t.p t.xs.length t.cap, .string (bs d), .int .i64 (bud.toNat : Int), .int .i64 (bud.toNat - bud.toNat : Nat), .bool false] T_content_search := by
    rw [Nat.sub_self]; exact o1
  have F1 : SrF h.size h1 s l t d bud.toNat bud.toNat false := ⟨o1', Nat.le_refl _, by omega, z1, fun h' f => by
    have f0 : Fr (fun _ => False) h h' := f1.tr f fun x hx hh => by omega
    exact ⟨SlOk.fr0 S_api_Content.ok_fr f0 hl, SlOk.fr0 S_api_Test.ok_fr f0 ht⟩⟩
  refine from_c (by omega) hd hoc hot l.xs 0 (Nat.zero_le _) rfl 0 ⟨by omega, by omega⟩ F1 fun h2 f2 F2 => ⟨_, _, rfl, ?_⟩
  have hk := hk h2 (f1.tr f2 fun x hx hh => by omega)
  unfold matchV at hk
  have c2 := F2.own.cells
  refine ldB_mk (c2.at (j := 5) rfl) (ifB (fun e => ?_) fun e => ?_)
  · rw [if_pos e] at hk
    exact ldI_mk (c2.at (j := 3) rfl) hk
  · rw [if_neg (by rw [e]; decide)] at hk
    exact ldI_mk (c2.at (j := 4) rfl) hk
/-- Where there is a solution, each content that counts stands somewhere. -/
theorem solve_some {d : Nm} {ts : List Ts} : ∀ (cs : List Cn) (cur : Int) (l : Nat), (solve d ts cs cur l).1.isSome = true → ∀ c ∈ cs, c.Not = false → ∃ p : Int, atB c d p = true
  | [], _, _, _, c, hc, _ => absurd hc List.not_mem_nil
  | x :: cs, cur, l, h, c, hc, hn => by
    have key : ∀ (n : Nat) (p : Int) (l : Nat), (places d x (solve d ts cs) (fun left => if x.Not = true then solve d ts cs cur left else (none, left, false)) n p l).1.isSome = true → (∃ cur' l', (solve d ts cs cur' l').1.isSome = true) ∧ (x.Not = false → ∃ p, atB x d p = true) := by
      intro n
      induction n with
      | zero =>
        intro p l h
        unfold places at h
        by_cases hx : x.Not = true
        · rw [if_pos hx] at h; exact ⟨⟨_, _, h⟩, fun h2 => by rw [hx] at h2; cases h2⟩
        · rw [if_neg hx] at h; cases h
      | succ n ih =>
        intro p l h
        unfold places at h
        by_cases h0 : l = 0
        · rw [if_pos h0] at h; cases h
        rw [if_neg h0] at h
        by_cases hat : atB x d p = true
        · rw [if_pos hat] at h
          by_cases hx : x.Not = true
          · rw [if_pos hx] at h; cases h
          rw [if_neg hx] at h
          by_cases h1 : (solve d ts cs (p + x.Pattern.length) (l - 1)).2.2 = true
          · rw [if_pos h1] at h; cases h
          rw [if_neg h1] at h
          by_cases h2 : (solve d ts cs (p + x.Pattern.length) (l - 1)).1.isSome = true
          · exact ⟨⟨_, _, h2⟩, fun _ => ⟨p, hat⟩⟩
          · rw [if_neg h2] at h
            exact ih _ _ h
        · rw [if_neg hat] at h
          exact ih _ _ h
    unfold solve at h
    have k := key _ _ _ h
    rcases List.mem_cons.1 hc with rfl | hc
    · exact k.2 hn
    · obtain ⟨c', l', h'⟩ := k.1
      exact solve_some cs c' l' h' c hc hn
end Go.Proofs.Ytjelnknmjhceiaa.Au
