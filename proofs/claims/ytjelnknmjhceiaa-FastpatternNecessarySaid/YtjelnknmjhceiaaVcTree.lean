/-
  The condition of a whole piece of code at once, up to cuts (where ways join) and to nodes (loops, scopes): what it is, and that it suffices.
-/
import Derived.Test.YtjelnknmjhceiaaVcDraw
namespace Go.Proofs.Ytjelnknmjhceiaa
set_option linter.unusedSimpArgs false
set_option linter.unusedVariables false
set_option maxRecDepth 20000
open Go
abbrev QT := Value → Heap → Prop
abbrev XC := Exit → Env → Heap → Prop
abbrev CutL := List (Nat × (Env → Heap → Prop))
def look : CutL → Nat → Option (Env → Heap → Prop)
  | [], _ => none
  | (m, K) :: r, n => bif Nat.beq m n then some K else look r n
/-- The first region of a code, from 1 on; 0 is none. -/
def hd : Code → Nat
  | .region id _ _ => id + 1
  | .seq x y => match hd x with | 0 => hd y | n + 1 => n + 1
  | .cond _ x y => match hd x with | 0 => hd y | n + 1 => n + 1
  | .block _ c => hd c
  | .loop c => hd c
  | .scope c => hd c
  | _ => 0
/-- Whether a code begins with a region: only such a point has a number of its own. -/
def lead : Code → Bool
  | .region _ _ _ => true
  | .seq x _ => lead x
  | .block _ c => lead c
  | .loop c => lead c
  | .scope c => lead c
  | _ => false
def ky (c : Code) : Nat := bif lead c then 2 * hd c else 0
def kx (c : Code) : Nat := bif lead c then 2 * hd c + 1 else 0
def isLab : Code → Bool
  | .label _ => true
  | _ => false
def nrm (K : Env → Heap → Prop) (X : XC) : XC := fun x => match x with | .normal => K | y => X y
def blk (id : Nat) (X : XC) : XC := fun x => match x with | .exit i => (bif Nat.beq i id then X .normal else X (.exit i)) | y => X y
def gto (l : Nat) (K : Env → Heap → Prop) (X : XC) : XC := fun x => match x with | .goto i => (bif Nat.beq i l then K else fun _ _ => False) | y => X y
def orK (o : Option (Env → Heap → Prop)) (K : Env → Heap → Prop) : Env → Heap → Prop := match o with | some L => L | none => K
def vcC [Gh] (P : Program) (N : Nat) (ct lp : CutL) : Code → XC → Env → Heap → Prop
  | .region _ ops draw, X, e, h =>
    if noDefer ops = true then (bif draw then vcDraw P N ops (fun e _ h => X .normal e h) e [] h else vcOps P N ops (fun e _ h => X .normal e h) (List.range ops.size) e [] h) else False
  | .seq x y, X, e, h => bif isLab x then orK (look lp (2 * hd y + 1)) (fun _ _ => False) e h else vcC P N ct lp x (nrm (orK (look ct (ky y)) (vcC P N ct lp y X)) X) e h
  | .cond c x y, X, e, h =>
    match eev e c with
    | .bool b => if b = true then orK (look ct (kx x)) (vcC P N ct lp x X) e h else orK (look ct (kx y)) (vcC P N ct lp y X) e h
    | _ => False
  | .block id c, X, e, h => vcC P N ct lp c (blk id X) e h
  | .loop c, _, e, h => orK (look lp (2 * hd c)) (fun _ _ => False) e h
  | .scope c, _, e, h => orK (look lp (2 * hd c + 1)) (fun _ _ => False) e h
  | .skip, X, e, h => X .normal e h
  | .exit id, X, e, h => X (.exit id) e h
  | .goto l, X, e, h => X (.goto l) e h
  | .ret, X, e, h => X .ret e h
  | _, _, _, _ => False
def cutsAt [Gh] (P : Program) (N : Nat) (ct lp : CutL) : Code → XC → Nat → List (Env → Heap → Prop)
  | .seq x y, X, n => bif isLab x then [] else (bif Nat.beq (ky y) n then [vcC P N ct lp y X] else []) ++ (cutsAt P N ct lp x (nrm (orK (look ct (ky y)) (vcC P N ct lp y X)) X) n ++ cutsAt P N ct lp y X n)
  | .cond _ x y, X, n => ((bif Nat.beq (kx x) n then [vcC P N ct lp x X] else []) ++ (bif Nat.beq (kx y) n then [vcC P N ct lp y X] else [])) ++ (cutsAt P N ct lp x X n ++ cutsAt P N ct lp y X n)
  | .block id c, X, n => cutsAt P N ct lp c (blk id X) n
  | _, _, _ => []
def nodesAt [Gh] (P : Program) (N : Nat) (ct lp : CutL) : Code → XC → Nat → List (Code × XC)
  | .seq x y, X, n => bif isLab x then (bif Nat.beq (2 * hd y + 1) n then [(.seq x y, X)] else []) else nodesAt P N ct lp x (nrm (orK (look ct (ky y)) (vcC P N ct lp y X)) X) n ++ nodesAt P N ct lp y X n
  | .cond _ x y, X, n => nodesAt P N ct lp x X n ++ nodesAt P N ct lp y X n
  | .block id c, X, n => nodesAt P N ct lp c (blk id X) n
  | .loop c, X, n => bif Nat.beq (2 * hd c) n then [(.loop c, X)] else []
  | .scope c, X, n => bif Nat.beq (2 * hd c + 1) n then [(.scope c, X)] else []
  | _, _, _ => []
/-- No region writes the slot. -/
def keepC : Code → Nat → Bool
  | .region _ ops _, t => keepB ops t
  | .seq x y, t => keepC x t && keepC y t
  | .cond _ x y, t => keepC x t && keepC y t
  | .block _ c, t => keepC c t
  | .loop c, t => keepC c t
  | .scope c, t => keepC c t
  | _, _ => true
def Kept (kp : Nat → Bool) (e0 e : Env) : Prop := ∀ t, kp t = true → e t = e0 t
theorem Kept.refl (kp : Nat → Bool) (e : Env) : Kept kp e e := fun _ _ => rfl
theorem Kept.trans {kp : Nat → Bool} {a b c : Env} (h1 : Kept kp a b) (h2 : Kept kp b c) : Kept kp a c := fun t ht => (h2 t ht).trans (h1 t ht)
theorem Kept.mono {kp kq : Nat → Bool} {a b : Env} (h : Kept kp a b) (hs : ∀ t, kq t = true → kp t = true) : Kept kq a b := fun t ht => h t (hs t ht)
def toQ (kp : Nat → Bool) (e0 : Env) (X : XC) : EPost := fun x e' ds' h' => ds' = [] ∧ Kept kp e0 e' ∧ X x e' h'
def NodeOk [Gh] (P : Program) (N : Nat) (kp : Nat → Bool) (e0 : Env) (L : Env → Heap → Prop) (p : Code × XC) : Prop :=
  ∀ e h, Kept kp e0 e → L e h → EWP P N p.1 (toQ kp e0 p.2) e [] h
section
variable [Gh] {P : Program} {N : Nat} {ct lp : CutL} {kp : Nat → Bool} {e0 : Env}
theorem vcC_sound (hm : P.follows .mixedOrders = true) : ∀ (c : Code) (X : XC) (Q : EPost), (∀ t, kp t = true → keepC c t = true) →
    (∀ x e h, Kept kp e0 e → X x e h → Q x e [] h) →
    (∀ n K, look ct n = some K → ∀ g ∈ cutsAt P N ct lp c X n, ∀ e h, Kept kp e0 e → K e h → g e h) →
    (∀ n L, look lp n = some L → ∀ p ∈ nodesAt P N ct lp c X n, NodeOk P N kp e0 L p) →
    ∀ e h, Kept kp e0 e → vcC P N ct lp c X e h → EWP P N c Q e [] h := by
  intro c
  induction c with
  | skip => intro X Q _ hX _ _ e h he hv; exact EWP.skip (hX _ _ _ he hv)
  | region id ops draw =>
    intro X Q hkp hX _ _ e h he hv
    unfold vcC at hv
    split at hv
    case isFalse => exact hv.elim
    rename_i hn
    have kept : ∀ e', (∀ t, keepB ops t = true → e' t = e t) → Kept kp e0 e' := fun e' hk t ht => (hk t (hkp t ht)).trans (he t ht)
    cases draw with
    | false => exact EWP.regionN _ hn hv fun e' h' hk hx => hX _ _ _ (kept e' hk) hx
    | true => exact EWP.drawN _ hn hm hv fun e' h' hk hx => hX _ _ _ (kept e' hk) hx
  | seq x y ihx ihy =>
    intro X Q hkp hX hc hl e h he hv
    unfold vcC at hv
    cases hlb : isLab x with
    | true =>
      rw [hlb] at hv
      simp only [cond_true] at hv
      cases hL : look lp (2 * hd y + 1) with
      | none => rw [hL] at hv; exact hv.elim
      | some L =>
        rw [hL] at hv
        refine EWP.mono (hl _ L hL (.seq x y, X) (by unfold nodesAt; rw [hlb, Nat.beq_refl]; exact List.mem_singleton.2 rfl) e h he hv) ?_
        rintro x e' ds' h' ⟨rfl, hk, hx⟩
        exact hX _ _ _ hk hx
    | false =>
    rw [hlb] at hv
    simp only [cond_false] at hv
    refine EWP.seq (fun e' ds' h' => ds' = [] ∧ Kept kp e0 e' ∧ orK (look ct (ky y)) (vcC P N ct lp y X) e' h') ?_ ?_
    · refine ihx _ _ (fun t ht => by have := hkp t ht; simp only [keepC, Bool.and_eq_true] at this; exact this.1) ?_ ?_ ?_ e h he hv
      · intro ex e' h' hk hx
        cases ex with
        | normal => exact ⟨rfl, hk, hx⟩
        | _ => exact hX _ _ _ hk hx
      · intro n K hK g hg; exact hc n K hK g (by unfold cutsAt; rw [hlb]; exact List.mem_append_right _ (List.mem_append_left _ hg))
      · intro n L hL p hp; exact hl n L hL p (by unfold nodesAt; rw [hlb]; exact List.mem_append_left _ hp)
    · rintro e' ds' h' ⟨rfl, hk, hx⟩
      refine ihy X Q (fun t ht => by have := hkp t ht; simp only [keepC, Bool.and_eq_true] at this; exact this.2) hX ?_ ?_ e' h' hk ?_
      · intro n K hK g hg; exact hc n K hK g (by unfold cutsAt; rw [hlb]; exact List.mem_append_right _ (List.mem_append_right _ hg))
      · intro n L hL p hp; exact hl n L hL p (by unfold nodesAt; rw [hlb]; exact List.mem_append_right _ hp)
      · cases hK : look ct (ky y) with
        | none => rw [hK] at hx; exact hx
        | some K =>
          rw [hK] at hx
          refine hc (ky y) K hK _ ?_ e' h' hk hx
          unfold cutsAt
          rw [hlb]
          refine List.mem_append_left _ ?_
          rw [Nat.beq_refl]; exact List.mem_singleton.2 rfl
  | cond cc x y ihx ihy =>
    intro X Q hkp hX hc hl e h he hv
    unfold vcC at hv
    split at hv
    case h_2 => exact hv.elim
    rename_i b hb
    refine EWP.cond hb (fun ht => ?_) (fun hf => ?_)
    · rw [if_pos ht] at hv
      have hv : vcC P N ct lp x X e h := by
        cases hK : look ct (kx x) with
        | none => rw [hK] at hv; exact hv
        | some K =>
          rw [hK] at hv
          refine hc (kx x) K hK _ ?_ e h he hv
          unfold cutsAt
          refine List.mem_append_left _ (List.mem_append_left _ ?_)
          rw [Nat.beq_refl]; exact List.mem_singleton.2 rfl
      refine ihx X Q (fun t ht => by have := hkp t ht; simp only [keepC, Bool.and_eq_true] at this; exact this.1) hX ?_ ?_ e h he hv
      · intro n K hK g hg; exact hc n K hK g (by unfold cutsAt; exact List.mem_append_right _ (List.mem_append_left _ hg))
      · intro n L hL p hp; exact hl n L hL p (by unfold nodesAt; exact List.mem_append_left _ hp)
    · rw [if_neg (by simp [hf])] at hv
      have hv : vcC P N ct lp y X e h := by
        cases hK : look ct (kx y) with
        | none => rw [hK] at hv; exact hv
        | some K =>
          rw [hK] at hv
          refine hc (kx y) K hK _ ?_ e h he hv
          unfold cutsAt
          refine List.mem_append_left _ (List.mem_append_right _ ?_)
          rw [Nat.beq_refl]; exact List.mem_singleton.2 rfl
      refine ihy X Q (fun t ht => by have := hkp t ht; simp only [keepC, Bool.and_eq_true] at this; exact this.2) hX ?_ ?_ e h he hv
      · intro n K hK g hg; exact hc n K hK g (by unfold cutsAt; exact List.mem_append_right _ (List.mem_append_right _ hg))
      · intro n L hL p hp; exact hl n L hL p (by unfold nodesAt; exact List.mem_append_right _ hp)
  | block id c ih =>
    intro X Q hkp hX hc hl e h he hv
    unfold vcC at hv
    refine EWP.block (ih (blk id X) (blockQ id Q) hkp ?_ (fun n K hK g hg => hc n K hK g hg) (fun n L hL p hp => hl n L hL p hp) e h he hv)
    intro ex e' h' hk hx
    cases ex with
    | exit i =>
      unfold blk at hx
      simp only at hx
      show (if i = id then Q .normal e' [] h' else Q (.exit i) e' [] h')
      cases hi : Nat.beq i id with
      | true => rw [hi] at hx; rw [if_pos (Nat.eq_of_beq_eq_true hi)]; exact hX _ _ _ hk hx
      | false => rw [hi] at hx; rw [if_neg (fun e => by subst e; rw [Nat.beq_refl] at hi; cases hi)]; exact hX _ _ _ hk hx
    | _ => exact hX _ _ _ hk hx
  | loop c ih =>
    intro X Q hkp hX _ hl e h he hv
    unfold vcC at hv
    cases hL : look lp (2 * hd c) with
    | none => rw [hL] at hv; exact hv.elim
    | some L =>
      rw [hL] at hv
      refine EWP.mono (hl _ L hL (.loop c, X) (by unfold nodesAt; rw [Nat.beq_refl]; exact List.mem_singleton.2 rfl) e h he hv) ?_
      rintro x e' ds' h' ⟨rfl, hk, hx⟩
      exact hX _ _ _ hk hx
  | scope c ih =>
    intro X Q hkp hX _ hl e h he hv
    unfold vcC at hv
    cases hL : look lp (2 * hd c + 1) with
    | none => rw [hL] at hv; exact hv.elim
    | some L =>
      rw [hL] at hv
      refine EWP.mono (hl _ L hL (.scope c, X) (by unfold nodesAt; rw [Nat.beq_refl]; exact List.mem_singleton.2 rfl) e h he hv) ?_
      rintro x e' ds' h' ⟨rfl, hk, hx⟩
      exact hX _ _ _ hk hx
  | exit id => intro X Q _ hX _ _ e h he hv; exact EWP.exit (hX _ _ _ he hv)
  | goto l => intro X Q _ hX _ _ e h he hv; exact EWP.goto (hX _ _ _ he hv)
  | ret => intro X Q _ hX _ _ e h he hv; exact EWP.ret (hX _ _ _ he hv)
  | label l => intro X Q _ _ _ _ e h _ hv; unfold vcC at hv; exact hv.elim
  | rangeFunc f p a b => intro X Q _ _ _ _ e h _ hv; unfold vcC at hv; exact hv.elim
  | refuse w => intro X Q _ _ _ _ e h _ hv; unfold vcC at hv; exact hv.elim

end

/-! ### What slots hold -/
def overlay : List (Nat × Value) → Env → Env
  | [], e => e
  | (t, v) :: l, e => upd (overlay l e) t v
def Ag (e : Env) (L : List (Nat × Value)) : Prop := ∀ p ∈ L, e p.1 = p.2
theorem Ag.nil {e : Env} : Ag e [] := fun _ h => by cases h
theorem Ag.cons {e : Env} {L : List (Nat × Value)} (h : Ag e L) {t : Nat} {v : Value} (ht : e t = v) : Ag e ((t, v) :: L) := by
  intro p hp
  rcases List.mem_cons.1 hp with rfl | hp
  · exact ht
  · exact h p hp
theorem Ag.app {e : Env} {L M : List (Nat × Value)} (h : Ag e L) (g : Ag e M) : Ag e (L ++ M) := by
  intro p hp
  rcases List.mem_append.1 hp with hp | hp
  · exact h p hp
  · exact g p hp
theorem Ag.take {e : Env} {L : List (Nat × Value)} (h : Ag e L) (n : Nat) : Ag e (L.take n) := fun p hp => h p (List.mem_of_mem_take hp)
theorem Ag.keep {e e' : Env} {kq : Nat → Bool} {L : List (Nat × Value)} (h : Ag e L) (hk : Kept kq e e') : Ag e' (L.filter fun p => kq p.1) := by
  intro p hp
  obtain ⟨h1, h2⟩ := List.mem_filter.1 hp
  exact (hk _ h2).trans (h p h1)
theorem Ag.over {e : Env} : ∀ {L : List (Nat × Value)}, Ag e L → overlay L e = e
  | [], _ => rfl
  | (t, v) :: l, h => by
    show upd (overlay l e) t v = e
    rw [Ag.over (L := l) (fun p hp => h p (List.mem_cons_of_mem _ hp))]
    exact upd_self (h (t, v) (List.mem_cons_self ..))
def dV (v : Value) (K : Value → Prop) : Prop := K v
theorem eI {e : Env} {L : List (Nat × Value)} (F : Ag e L) {k : IntKind} {t : Nat} {K : Int → Prop} (h : dI k (e t) K) : ∃ n, Ag e ((t, .int k n) :: L) ∧ K n := by
  obtain ⟨n, h1, h2⟩ := dI_elim h; exact ⟨n, F.cons h1, h2⟩
theorem eB {e : Env} {L : List (Nat × Value)} (F : Ag e L) {t : Nat} {K : Bool → Prop} (h : dB (e t) K) : ∃ n, Ag e ((t, .bool n) :: L) ∧ K n := by
  obtain ⟨n, h1, h2⟩ := dB_elim h; exact ⟨n, F.cons h1, h2⟩
theorem eS {e : Env} {L : List (Nat × Value)} (F : Ag e L) {t : Nat} {K : ByteArray → Prop} (h : dS (e t) K) : ∃ n, Ag e ((t, .string n) :: L) ∧ K n := by
  obtain ⟨n, h1, h2⟩ := dS_elim h; exact ⟨n, F.cons h1, h2⟩
theorem eP {e : Env} {L : List (Nat × Value)} (F : Ag e L) {t : Nat} {K : Option Addr → Prop} (h : dP (e t) K) : ∃ n, Ag e ((t, .pointer n) :: L) ∧ K n := by
  obtain ⟨n, h1, h2⟩ := dP_elim h; exact ⟨n, F.cons h1, h2⟩
theorem eA {e : Env} {L : List (Nat × Value)} (F : Ag e L) {t : Nat} {K : Addr → Prop} (h : dA (e t) K) : ∃ n, Ag e ((t, .pointer (some n)) :: L) ∧ K n := by
  obtain ⟨n, h1, h2⟩ := dA_elim h; exact ⟨n, F.cons h1, h2⟩
theorem eL {e : Env} {L : List (Nat × Value)} (F : Ag e L) {t : Nat} {K : Option Addr → Nat → Nat → Prop} (h : dL (e t) K) : ∃ a n c, Ag e ((t, .slice a n c) :: L) ∧ K a n c := by
  obtain ⟨a, n, c, h1, h2⟩ := dL_elim h; exact ⟨a, n, c, F.cons h1, h2⟩
theorem eM {e : Env} {L : List (Nat × Value)} (F : Ag e L) {t : Nat} {K : Option Nat → Prop} (h : dM (e t) K) : ∃ n, Ag e ((t, .map n) :: L) ∧ K n := by
  obtain ⟨n, h1, h2⟩ := dM_elim h; exact ⟨n, F.cons h1, h2⟩
theorem eV {e : Env} {L : List (Nat × Value)} (F : Ag e L) {t : Nat} {K : Value → Prop} (h : dV (e t) K) : ∃ n, Ag e ((t, n) :: L) ∧ K n := ⟨_, F.cons rfl, h⟩
theorem eG {e : Env} {L : List (Nat × Value)} (F : Ag e L) {t : Nat} {K : List Value → Prop} (h : dG (e t) K) : ∃ l, Ag e ((t, .agg l.toArray) :: L) ∧ K l := by
  obtain ⟨n, h1, h2⟩ := dG_elim h; exact ⟨n, F.cons h1, h2⟩
theorem eT {e : Env} {L : List (Nat × Value)} (F : Ag e L) {t : Nat} {K : List Value → Prop} (h : dT (e t) K) : ∃ l, Ag e ((t, .tuple l.toArray) :: L) ∧ K l := by
  obtain ⟨n, h1, h2⟩ := dT_elim h; exact ⟨n, F.cons h1, h2⟩
theorem eF {f : FuncId} {e : Env} {L : List (Nat × Value)} (F : Ag e L) {t : Nat} {K : List Value → Prop} (h : dF f (e t) K) : ∃ l, Ag e ((t, .func (.func f) #[] l.toArray) :: L) ∧ K l := by
  obtain ⟨n, h1, h2⟩ := dF_elim h; exact ⟨n, F.cons h1, h2⟩
theorem dV_elim {v : Value} {K : Value → Prop} (h : dV v K) : ∃ x, v = x ∧ K x := ⟨_, rfl, h⟩

/-! ### Units -/
section
variable [Gh] {P : Program} {N : Nat} {ct lp : CutL} {kp : Nat → Bool} {e0 : Env}
def goalP (P : Program) (N : Nat) [Gh] (ct lp : CutL) (c : Code) (X : XC) (n : Nat) (e : Env) (h : Heap) : Prop := allP ((cutsAt P N ct lp c X n).map fun g => g e h)
def nodeAt (P : Program) (N : Nat) [Gh] (ct lp : CutL) (c : Code) (X : XC) (n : Nat) : Code × XC := (nodesAt P N ct lp c X n).headD (.skip, X)
def CutsOk (P : Program) (N : Nat) (ct lp : CutL) (c : Code) (X : XC) (kp : Nat → Bool) (e0 : Env) : CutL → Prop
  | [] => True
  | (n, K) :: r => (∀ e h, Kept kp e0 e → K e h → goalP P N ct lp c X n e h) ∧ CutsOk P N ct lp c X kp e0 r
def NodesOk (P : Program) (N : Nat) (ct lp : CutL) (c : Code) (X : XC) (kp : Nat → Bool) (e0 : Env) : CutL → Prop
  | [] => True
  | (n, L) :: r => ((nodesAt P N ct lp c X n).length = 1 ∧ NodeOk P N kp e0 L (nodeAt P N ct lp c X n)) ∧ NodesOk P N ct lp c X kp e0 r
theorem look_cuts {c : Code} {X : XC} : ∀ {l : CutL}, CutsOk P N ct lp c X kp e0 l → ∀ n K, look l n = some K → ∀ g ∈ cutsAt P N ct lp c X n, ∀ e h, Kept kp e0 e → K e h → g e h
  | [], _, _, _, h => by cases h
  | (m, L) :: r, hc, n, K, hK => by
    unfold look at hK
    cases hb : Nat.beq m n with
    | true =>
      rw [hb] at hK
      have : L = K := by simpa using hK
      subst this
      have := Nat.eq_of_beq_eq_true hb
      subst this
      intro g hg e h he hk
      exact allP_mem (hc.1 e h he hk) (List.mem_map_of_mem (f := fun g => g e h) hg)
    | false => rw [hb] at hK; exact look_cuts hc.2 n K hK
theorem look_nodes {c : Code} {X : XC} : ∀ {l : CutL}, NodesOk P N ct lp c X kp e0 l → ∀ n K, look l n = some K → ∀ p ∈ nodesAt P N ct lp c X n, NodeOk P N kp e0 K p
  | [], _, _, _, h => by cases h
  | (m, L) :: r, hc, n, K, hK => by
    unfold look at hK
    cases hb : Nat.beq m n with
    | true =>
      rw [hb] at hK
      have : L = K := by simpa using hK
      subst this
      have := Nat.eq_of_beq_eq_true hb
      subst this
      intro p hp
      obtain ⟨h1, h2⟩ := hc.1
      unfold nodeAt at h2
      match hq : nodesAt P N ct lp c X m, h1 with
      | [q], _ =>
        rw [hq] at hp h2
        rw [List.mem_singleton.1 hp]; exact h2
    | false => rw [hb] at hK; exact look_nodes hc.2 n K hK
theorem unit_sound (hm : P.follows .mixedOrders = true) {c : Code} {X : XC} (hkp : ∀ t, kp t = true → keepC c t = true) (hc : CutsOk P N ct lp c X kp e0 ct) (hl : NodesOk P N ct lp c X kp e0 lp)
    {Q : EPost} (hX : ∀ x e h, Kept kp e0 e → X x e h → Q x e [] h) {e : Env} {h : Heap} (he : Kept kp e0 e) (hv : vcC P N ct lp c X e h) : EWP P N c Q e [] h :=
  vcC_sound hm c X Q hkp hX (look_cuts hc) (look_nodes hl) e h he hv
def X0 (P : Program) (fn : Func) (Q : Value → Heap → Prop) : XC := fun x e h => match x with | .normal => resH P fn e h fun v => Q v h | .ret => resH P fn e h fun v => Q v h | _ => False
def bodyOf (fn : Func) : Code := fn.body.getD .skip
def noK : Nat → Bool := fun _ => false
theorem callU (hm : P.follows .mixedOrders = true) {f : FuncId} {fn : Func} {args : Array Value} {h : Heap} {Q : Value → Heap → Prop} (hf : P.funcs[f]? = some fn)
    (hcall : ∀ w, (callFunc f args).run P w = .ok (.enter f args) w) (hb : fn.body.isSome = true) (hs : Nat.ble args.size fn.ntmps = true) (ct lp : CutL)
    (hc : CutsOk P fn.ntmps ct lp (bodyOf fn) (X0 P fn Q) noK (env0 args) ct) (hl : NodesOk P fn.ntmps ct lp (bodyOf fn) (X0 P fn Q) noK (env0 args) lp)
    {B : Prop} (hv : vcC P fn.ntmps ct lp (bodyOf fn) (X0 P fn Q) (env0 args) h = B) (hk : B) : CallT P f args h Q := by
  obtain ⟨c, hbc⟩ := Option.isSome_iff_exists.1 hb
  have hbo : bodyOf fn = c := by unfold bodyOf; rw [hbc]; rfl
  refine callT_of (N := fn.ntmps) hf hbc rfl hcall (Nat.le_of_ble_eq_true hs) ?_
  rw [← hbo]
  refine unit_sound hm (fun t ht => by cases ht) hc hl ?_ (Kept.refl _ _) (hv ▸ hk)
  intro x e h' _ hx
  cases x <;> first | exact ⟨rfl, hx⟩ | exact hx
theorem cutU {c : Code} {X : XC} {n : Nat} {e : Env} {h : Heap} {L : List (Nat × Value)} (F : Ag e L) {B : Prop} (hv : goalP P N ct lp c X n (overlay L e) h = B) (hk : B) : goalP P N ct lp c X n e h := by
  rw [F.over] at hv; exact hv ▸ hk
def lcode (c : Code) : Code := match c with | .loop c => c | .scope c => c | c => c
theorem loopU {σ : Type} (hm : P.follows .mixedOrders = true) {p : Code × XC} {e : Env} {h : Heap} {L : List (Nat × Value)} {body : σ → Heap → (σ → Heap → Prop) → Prop} {s0 : σ}
    (hkp : ∀ t, kp t = true → keepC (lcode p.1) t = true) (he : Kept kp e0 e) (F : Ag e L) (M : σ → List (Nat × Value)) (hp : p.1 = .loop (lcode p.1)) (h0 : Ag e (M s0)) (hlv : LoopV body s0 h)
    (dK : (σ → Heap → Prop) → Env → Heap → Prop) (hM : ∀ (Kn : σ → Heap → Prop) e h, dK Kn e h → ∃ s, Ag e (M s) ∧ Kn s h) (ct lp : (σ → Heap → Prop) → CutL)
    (hc : ∀ Kn, CutsOk P N (ct Kn) (lp Kn) (lcode p.1) (nrm (dK Kn) p.2) (keepC (lcode p.1)) e (ct Kn)) (hl : ∀ Kn, NodesOk P N (ct Kn) (lp Kn) (lcode p.1) (nrm (dK Kn) p.2) (keepC (lcode p.1)) e (lp Kn))
    (hv : ∀ e s h Kn, vcC P N (ct Kn) (lp Kn) (lcode p.1) (nrm (dK Kn) p.2) (overlay (M s ++ L.filter fun q => keepC (lcode p.1) q.1) e) h = body s h Kn) :
    EWP P N p.1 (toQ kp e0 p.2) e [] h := by
  rw [hp]
  refine EWP.loopV (fun e' s => Kept (keepC (lcode p.1)) e e' ∧ Ag e' (M s)) ⟨Kept.refl _ _, h0⟩ hlv ?_
  rintro e' s h' Kn ⟨hk', ha⟩ hb
  refine unit_sound (kp := keepC (lcode p.1)) (e0 := e) hm (fun t ht => ht) (hc Kn) (hl Kn) ?_ hk' ?_
  · intro x e'' h'' hk hx
    have keep0 : Kept kp e0 e'' := he.trans (hk.mono hkp)
    cases x with
    | normal => obtain ⟨s', ha', hs'⟩ := hM Kn e'' h'' hx; exact ⟨rfl, s', ⟨hk, ha'⟩, hs'⟩
    | _ => exact ⟨rfl, keep0, hx⟩
  · have := hv e' s h' Kn
    rw [(ha.app (F.keep hk')).over] at this
    rw [this]; exact hb
end
def wrs : Code → List Nat
  | .region _ ops _ => ops.toList.filterMap (·.dst)
  | .seq x y => wrs x ++ wrs y
  | .cond _ x y => wrs x ++ wrs y
  | .block _ c => wrs c
  | .loop c => wrs c
  | .scope c => wrs c
  | _ => []
theorem wrs_of : ∀ {c : Code} {t : Nat}, keepC c t = false → t ∈ wrs c := by
  intro c
  induction c with
  | region id ops draw =>
    intro t h
    simp only [keepC, keepB] at h
    rw [Array.all_eq_false'] at h
    obtain ⟨o, ho, hd⟩ := h
    unfold wrs
    rw [List.mem_filterMap]
    exact ⟨o, by simpa using ho, by simpa using hd⟩
  | seq x y ihx ihy => intro t h; simp only [keepC, Bool.and_eq_false_iff] at h; unfold wrs; rcases h with h | h; exact List.mem_append_left _ (ihx h); exact List.mem_append_right _ (ihy h)
  | cond cc x y ihx ihy => intro t h; simp only [keepC, Bool.and_eq_false_iff] at h; unfold wrs; rcases h with h | h; exact List.mem_append_left _ (ihx h); exact List.mem_append_right _ (ihy h)
  | block id c ih => intro t h; exact ih h
  | loop c ih => intro t h; exact ih h
  | scope c ih => intro t h; exact ih h
  | _ => intro t h; cases h
theorem keep_sub {b c : Code} (h : ((wrs b).all fun t => !keepC c t) = true) : ∀ t, keepC c t = true → keepC b t = true := by
  intro t ht
  cases hb : keepC b t with
  | true => rfl
  | false =>
    have := List.all_eq_true.1 h t (wrs_of hb)
    rw [ht] at this; cases this
def labB (c : Code) (l : Nat) : Code := match findLabel c l with | some (.seq .skip B) => B | _ => .skip
section
variable [Gh] {P : Program} {N : Nat} {ct lp : CutL} {kp : Nat → Bool} {e0 : Env}
theorem scopeU {σ : Type} (hm : P.follows .mixedOrders = true) {p : Code × XC} {e : Env} {h : Heap} {L : List (Nat × Value)} {body : σ → Heap → (σ → Heap → Prop) → Prop} {B0 : Prop} (l : Nat)
    (hkp : ∀ t, kp t = true → keepC (lcode p.1) t = true) (he : Kept kp e0 e) (F : Ag e L) (M : σ → List (Nat × Value)) (hp : p.1 = .scope (lcode p.1)) (hf : findLabel (lcode p.1) l = some (.seq .skip (labB (lcode p.1) l)))
    (hw : ((wrs (labB (lcode p.1) l)).all fun t => !keepC (lcode p.1) t) = true)
    (dK : (σ → Heap → Prop) → Env → Heap → Prop) (hM : ∀ (Kn : σ → Heap → Prop) e h, dK Kn e h → ∃ s, Ag e (M s) ∧ Kn s h) (dL : Env → Heap → Prop) (hL : ∀ e h, dL (overlay (L.filter fun q => keepC (lcode p.1) q.1) e) h = dK (LoopV body) (overlay (L.filter fun q => keepC (lcode p.1) q.1) e) h)
    (hI : ∀ e s h, dL (overlay (M s ++ L.filter fun q => keepC (lcode p.1) q.1) e) h = LoopV body s h)
    (ct1 lp1 : CutL) (hc1 : CutsOk P N ct1 ((2 * hd (labB (lcode p.1) l) + 1, dL) :: lp1) (lcode p.1) (gto l dL p.2) (keepC (lcode p.1)) e ct1)
    (hn : nodesAt P N ct1 ((2 * hd (labB (lcode p.1) l) + 1, dL) :: lp1) (lcode p.1) (gto l dL p.2) (2 * hd (labB (lcode p.1) l) + 1) = [(.seq (.label l) (labB (lcode p.1) l), gto l dL p.2)])
    (hl1 : NodesOk P N ct1 ((2 * hd (labB (lcode p.1) l) + 1, dL) :: lp1) (lcode p.1) (gto l dL p.2) (keepC (lcode p.1)) e lp1)
    (hv1 : vcC P N ct1 ((2 * hd (labB (lcode p.1) l) + 1, dL) :: lp1) (lcode p.1) (gto l dL p.2) (overlay L e) h = B0) (hk : B0)
    (ct2 lp2 : (σ → Heap → Prop) → CutL)
    (hc2 : ∀ Kn, CutsOk P N (ct2 Kn) (lp2 Kn) (labB (lcode p.1) l) (gto l (dK Kn) p.2) (keepC (lcode p.1)) e (ct2 Kn)) (hl2 : ∀ Kn, NodesOk P N (ct2 Kn) (lp2 Kn) (labB (lcode p.1) l) (gto l (dK Kn) p.2) (keepC (lcode p.1)) e (lp2 Kn))
    (hv2 : ∀ e s h Kn, vcC P N (ct2 Kn) (lp2 Kn) (labB (lcode p.1) l) (gto l (dK Kn) p.2) (overlay (M s ++ L.filter fun q => keepC (lcode p.1) q.1) e) h = body s h Kn) :
    EWP P N p.1 (toQ kp e0 p.2) e [] h := by
  rw [hp]
  have dest : ∀ e' h', Kept (keepC (lcode p.1)) e e' → dL e' h' → dK (LoopV body) e' h' := by
    intro e' h' hk hx
    have := hL e' h'
    rw [(F.keep hk).over] at this
    exact this ▸ hx
  have leave : ∀ (Kn : σ → Heap → Prop) (D : Env → Heap → Prop), (∀ e' h', Kept (keepC (lcode p.1)) e e' → D e' h' → dK Kn e' h') → ∀ x e' h', Kept (keepC (lcode p.1)) e e' → gto l D p.2 x e' h' →
      jumpQ l (fun e' ds' h' => ds' = [] ∧ ∃ s', (Kept (keepC (lcode p.1)) e e' ∧ Ag e' (M s')) ∧ Kn s' h') (toQ (keepC (lcode p.1)) e p.2) x e' [] h' := by
    intro Kn D hD x e' h' hk hx
    cases x with
    | goto i =>
      unfold gto at hx
      simp only at hx
      cases hi : Nat.beq i l with
      | true =>
        rw [hi] at hx
        obtain ⟨s', ha', hs'⟩ := hM Kn e' h' (hD e' h' hk hx)
        exact ⟨Nat.eq_of_beq_eq_true hi, rfl, s', ⟨hk, ha'⟩, hs'⟩
      | false => rw [hi] at hx; exact hx.elim
    | _ => exact ⟨rfl, hk, hx⟩
  refine EWP.mono (Q := toQ (keepC (lcode p.1)) e p.2) ?_ (fun x e' ds' h' hx => ⟨hx.1, he.trans (hx.2.1.mono hkp), hx.2.2⟩)
  refine EWP.scopeV (l := l) (B := labB (lcode p.1) l) (fun e' s => Kept (keepC (lcode p.1)) e e' ∧ Ag e' (M s)) (body := body) hf ?_ ?_
  · rintro e' s h' Kn ⟨hk', ha⟩ hb
    refine unit_sound (kp := keepC (lcode p.1)) (e0 := e) hm (keep_sub hw) (hc2 Kn) (hl2 Kn) (leave Kn _ fun _ _ _ h => h) hk' ?_
    have := hv2 e' s h' Kn
    rw [(ha.app (F.keep hk')).over] at this
    rw [this]; exact hb
  · intro hfall
    rw [F.over] at hv1
    refine unit_sound (kp := keepC (lcode p.1)) (e0 := e) hm (fun t ht => ht) hc1 ⟨⟨by rw [hn]; rfl, ?_⟩, hl1⟩ (leave (LoopV body) dL dest) (Kept.refl _ _) (hv1 ▸ hk)
    unfold nodeAt
    rw [hn]
    intro e' h' hk' hd'
    obtain ⟨s', ha', hs'⟩ := hM (LoopV body) e' h' (dest e' h' hk' hd')
    refine EWP.mono (hfall e' s' h' ⟨hk', ha'⟩ hs') ?_
    intro x e2 ds2 h2 hx
    cases x with
    | goto i =>
      obtain ⟨hi, hds, s2, ⟨hk2, ha2⟩, hs2⟩ := hx
      refine ⟨hds, hk2, ?_⟩
      show (bif Nat.beq i l then _ else _ : Env → Heap → Prop) e2 h2
      rw [hi, Nat.beq_refl]
      have := hI e2 s2 h2
      rw [(ha2.app (F.keep hk2)).over] at this
      show dL e2 h2
      rw [this]; exact hs2
    | _ => exact hx
end
end Go.Proofs.Ytjelnknmjhceiaa
