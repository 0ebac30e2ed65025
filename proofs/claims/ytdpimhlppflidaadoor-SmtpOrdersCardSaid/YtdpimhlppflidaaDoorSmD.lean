/-
  The session: what it is; the program's items and events.
-/
import Derived.Test.YtdpimhlppflidaaDoorSmC
namespace Go.Proofs.YtdpimhlppflidaaDoor
set_option linter.unusedSimpArgs false
set_option linter.unusedVariables false
set_option maxRecDepth 20000
open Go
open Go.IntKind (wrap)
abbrev Ev := S_api_SmtpEvent
structure SD where
  q : List Ln
  f : Bool
  B : Nm
structure PS where
  c : SD
  s : SD
  items : List (Option Nm)
  gr : Bool
  op : Bool
  im : Bool
  num : Nm
  tx : List Nm
def kDATA : Nm := [68, 65, 84, 65]
def kTLS : Nm := [83, 84, 65, 82, 84, 84, 76, 83]
def k354 : Nm := [51, 53, 52]
def k220 : Nm := [50, 50, 48]
def openI : Option Nm → Bool
  | none => false
  | some v => decide (v = kDATA) || decide (v = kTLS)
def lastOk (l : List (Option Nm)) : Bool := match l.getLast? with | none => true | some i => !openI i
def canC (st : PS) : Bool := decide (st.c.q ≠ []) && !st.c.f && !st.op && lastOk st.items
def canS (st : PS) : Bool := decide (st.s.q ≠ []) && !st.s.f && !st.op && (decide (st.tx ≠ []) || !st.gr || decide (st.items ≠ []))
def alphaB (b : UInt8) : Bool := decide (65 ≤ b.toNat ∧ b.toNat ≤ 90 ∨ 97 ≤ b.toNat ∧ b.toNat ≤ 122)
def cmdL (s : Nm) : Option (Nm × Nm) := if (cutSp s).1 = [] ∨ (cutSp s).1.length > 16 ∨ (cutSp s).1.all alphaB = false then none else some (upL (cutSp s).1, (cutSp s).2.1)
def clientL (st : PS) (s : Nm) : PS × List Ev × Bool :=
  if st.im = true then
    (if s = [46] then ({ st with im := false, items := st.items ++ [none] }, [⟨4, 1, [], []⟩], true) else (st, [⟨3, 1, [], undotL s⟩], true))
  else match cmdL s with
    | none => (st, [], false)
    | some (v, t) => ({ st with items := st.items ++ [some v] }, [⟨1, 1, v, t⟩], true)
def digitB (b : UInt8) : Bool := decide (48 ≤ b.toNat ∧ b.toNat ≤ 57)
def okRest (r : Nm) : Bool := match r with | [] => true | c :: _ => decide (c = 32 ∨ c = 45)
def moreR (r : Nm) : Bool := match r with | [] => false | c :: _ => decide (c = 45)
def answerL (st : PS) (number : Nm) : PS :=
  match st.items with
  | [] => st
  | none :: r => { st with items := r }
  | some v :: r => { st with items := r, im := st.im || (decide (v = kDATA) && decide (number = k354)), op := st.op || (decide (v = kTLS) && decide (number = k220)) }
def serverL (st : PS) (s : Nm) : PS × List Ev × Bool :=
  if s.length < 3 ∨ (s.take 3).all digitB = false then (st, [], false)
  else if okRest (s.drop 3) = false ∨ (st.tx ≠ [] ∧ s.take 3 ≠ st.num) then (st, [], false)
  else if moreR (s.drop 3) = true then ({ st with num := s.take 3, tx := st.tx ++ [(s.drop 3).drop 1] }, [], true)
  else (if st.gr = false then { st with num := s.take 3, tx := [], gr := true } else answerL { st with num := s.take 3, tx := [] } (s.take 3), [⟨2, 2, s.take 3, joinL (st.tx ++ [(s.drop 3).drop 1])⟩], true)
/-! ### Memory -/
def itV (i : Option Nm) : List Value := match i with
  | none => [.iface T_smtp_mail (.agg #[])]
  | some v => [.iface T_smtp_command (.agg #[.string (bs v)])]
theorem itV_len (i : Option Nm) : (itV i).length = 1 := by cases i <;> rfl
theorem itV_cell (i : Option Nm) : (itV i).all cellV = true := by cases i <;> rfl
def evV (e : Ev) : List Value := e.vals
theorem evV_len (e : Ev) : (evV e).length = 4 := rfl
theorem el_ev : ElemT Tryd.prog T_sl_api_SmtpEvent T_api_SmtpEvent Tryd.t41 (.agg #[.int .i64 0, .int .i64 0, .string ⟨#[]⟩, .string ⟨#[]⟩]) := ⟨Tryd.underlying30, by kernel_rfl, by kernel_rfl, by kernel_rfl, by decide +kernel⟩
theorem el_it : ElemT Tryd.prog T_sl_smtp_item T_smtp_item Tryd.t88 .nilIface := ⟨Tryd.underlying47, by kernel_rfl, by kernel_rfl, by kernel_rfl, by decide +kernel⟩
theorem appEv [Gh] {h : Heap} {p : Option Addr} {cap : Nat} {L : List Ev} (R : Row 4 evV h p cap L) {e : Ev} {b : Addr} {T : TypeId} (ob : Own h b (evV e) T) (hl : L.length ≤ 2 ^ 29) {K : Value → Heap → Prop}
    (hk : ∀ p' cap' h', Row 4 evV h' p' cap' (L ++ [e]) → Fr (InA p) h h' → (∀ b, InA p' b → InA p b ∨ h.size ≤ b) → K (.slice p' (L ++ [e]).length cap') h') :
    bltV Tryd.prog .append #[T_sl_api_SmtpEvent, T_sl_api_SmtpEvent] T_sl_api_SmtpEvent #[false, false] #[.slice p L.length cap, .slice (some b) 1 1] h K :=
  R.app el_ev Tryd.underlying30 (by intro k e; cases e) (by kernel_rfl) (by decide +kernel) evV_len (fun _ => rfl) ob 1 hl hk
theorem appIt [Gh] {h : Heap} {p : Option Addr} {cap : Nat} {L : List (Option Nm)} (R : Que 1 itV h p cap L) {e : Option Nm} {b : Addr} {T : TypeId} (ob : Own h b (itV e) T) (hl : L.length ≤ 2 ^ 29) {K : Value → Heap → Prop}
    (hk : ∀ p' cap' h', Que 1 itV h' p' cap' (L ++ [e]) → Fr (InA p) h h' → (∀ b, InA p' b → InA p b ∨ h.size ≤ b) → K (.slice p' (L ++ [e]).length cap') h') :
    bltV Tryd.prog .append #[T_sl_smtp_item, T_sl_smtp_item] T_sl_smtp_item #[false, false] #[.slice p L.length cap, .slice (some b) 1 1] h K :=
  R.app el_it Tryd.underlying47 (by intro k e; cases e) (by kernel_rfl) (by decide +kernel) itV_len itV_cell ob 1 hl hk
theorem appSt [Gh] {h : Heap} {p : Option Addr} {cap : Nat} {L : List Nm} (R : Row 1 strV h p cap L) {e : Nm} {b : Addr} {T : TypeId} (ob : Own h b (strV e) T) (hl : L.length ≤ 2 ^ 29) {K : Value → Heap → Prop}
    (hk : ∀ p' cap' h', Row 1 strV h' p' cap' (L ++ [e]) → Fr (InA p) h h' → (∀ b, InA p' b → InA p b ∨ h.size ≤ b) → K (.slice p' (L ++ [e]).length cap') h') :
    bltV Tryd.prog .append #[T_sl_string, T_sl_string] T_sl_string #[false, false] #[.slice p L.length cap, .slice (some b) 1 1] h K :=
  R.app el_str Tryd.underlying35 (by intro k e; cases e) (by kernel_rfl) (by decide +kernel) strV_len (fun _ => rfl) ob 1 hl hk
/-- Whose a block is. -/
abbrev Tag := Nat → Nat
def upT (o : Tag) (n t : Nat) : Tag := fun x => if x < n then o x else t
theorem upT_lt {o : Tag} {n t x : Nat} (h : x < n) : upT o n t x = o x := if_pos h
theorem upT_ge {o : Tag} {n t x : Nat} (h : n ≤ x) : upT o n t x = t := if_neg (by omega)
/-- The tags of old blocks stay. -/
def Old (h : Heap) (o o' : Tag) : Prop := ∀ x, x < h.size → o' x = o x
theorem Old.refl (h : Heap) (o : Tag) : Old h o o := fun _ _ => rfl
theorem Old.up {h : Heap} {o : Tag} {n t : Nat} (hn : h.size ≤ n) : Old h o (upT o n t) := fun x hx => upT_lt (by omega)
theorem Old.trans {h h1 : Heap} {o o1 o2 : Tag} (a : Old h o o1) (b : Old h1 o1 o2) (hs : h.size ≤ h1.size) : Old h o o2 := fun x hx => (b x (by omega)).trans (a x hx)
structure SideF (o : Tag) (k : Nat) (h : Heap) (ad : Addr) (sd : SD) : Prop where
  ex : ∃ l qp qc, Own h ad [.pointer (some l), .slice qp sd.q.length qc, .bool sd.f] T_smtp_side ∧ Que 2 lnV h qp qc sd.q ∧ (∀ x, InA qp x → o x = k + 1) ∧ SplF (fun x => o x = k + 2) h l 512 sd.B
  tag : o ad.block = k
structure SesA where
  a : Addr
  s1 : Addr
  s2 : Addr
structure SesF (o : Tag) (k : Nat) (h : Heap) (p : SesA) (st : PS) : Prop where
  ex : ∃ ip ic tp tc, Own h p.a [.pointer none, .pointer (some p.s1), .pointer (some p.s2), .slice ip st.items.length ic, .bool st.gr, .bool st.op, .bool st.im, .string (bs st.num), .slice tp st.tx.length tc] T_smtp_Session ∧
    Que 1 itV h ip ic st.items ∧ (∀ x, InA ip x → o x = k + 2) ∧ Row 1 strV h tp tc st.tx ∧ (∀ x, InA tp x → o x = k + 3) ∧ SideF o (k + 10) h p.s1 st.c ∧ SideF o (k + 20) h p.s2 st.s
  tag : o p.a.block = k + 1
structure OutF (o : Tag) (k : Nat) (h : Heap) (ob : Addr) (evs : List Ev) : Prop where
  ex : ∃ p c, Own h ob [.slice p evs.length c] T_sl_api_SmtpEvent ∧ Row 4 evV h p c evs ∧ ∀ x, InA p x → o x = k + 31
  tag : o ob.block = k + 30
section
variable {o o' : Tag} {k : Nat} {h h' : Heap} {R : Nat → Prop}
theorem SideF.lt {ad : Addr} {sd : SD} (S : SideF o k h ad sd) : ad.block < h.size := by obtain ⟨l, qp, qc, ow, _⟩ := S.ex; exact ow.lt
theorem SideF.fr {ad : Addr} {sd : SD} (S : SideF o k h ad sd) (f : Fr R h h') (hR : ∀ x, x < h.size → R x → o x < k ∨ k + 3 ≤ o x) (ho : Old h o o') : SideF o' k h' ad sd := by
  obtain ⟨l, qp, qc, ow, q, hq, sp⟩ := S.ex
  have tg := S.tag
  refine ⟨⟨l, qp, qc, ow.fr f fun hr => by have := hR _ ow.lt hr; omega, q.fr f fun x hx hr => by have := hR _ (q.lt hx) hr; have := hq x hx; omega, fun x hx => by rw [ho x (q.lt hx)]; exact hq x hx, ?_⟩, by rw [ho _ ow.lt]; exact tg⟩
  exact (sp.to (ok' := fun x => o x = k + 2 ∧ o' x = k + 2) fun x hx h => ⟨h, by rw [ho x hx]; exact h⟩).fr f (fun x hx hr hk => by have := hR x hx hr; omega) |>.to fun x _ h => h.2
theorem SesF.lt {p : SesA} {st : PS} (S : SesF o k h p st) : p.a.block < h.size := by obtain ⟨ip, ic, tp, tc, ow, _⟩ := S.ex; exact ow.lt
theorem SesF.fr {p : SesA} {st : PS} (S : SesF o k h p st) (f : Fr R h h') (hR : ∀ x, x < h.size → R x → o x < k ∨ k + 30 ≤ o x) (ho : Old h o o') : SesF o' k h' p st := by
  obtain ⟨ip, ic, tp, tc, ow, I, hi, T, ht, C, D⟩ := S.ex
  have tg := S.tag
  exact ⟨⟨ip, ic, tp, tc, ow.fr f fun hr => by have := hR _ ow.lt hr; omega, I.fr f fun x hx hr => by have := hR _ (I.lt hx) hr; have := hi x hx; omega, fun x hx => by rw [ho x (I.lt hx)]; exact hi x hx, T.fr f fun x hx hr => by have := hR _ (T.lt hx) hr; have := ht x hx; omega, fun x hx => by rw [ho x (T.lt hx)]; exact ht x hx, C.fr f (fun x hx hr => by have := hR x hx hr; omega) ho, D.fr f (fun x hx hr => by have := hR x hx hr; omega) ho⟩, by rw [ho _ ow.lt]; exact tg⟩
theorem OutF.lt {ob : Addr} {evs : List Ev} (S : OutF o k h ob evs) : ob.block < h.size := by obtain ⟨p, c, ow, _⟩ := S.ex; exact ow.lt
theorem OutF.fr {ob : Addr} {evs : List Ev} (S : OutF o k h ob evs) (f : Fr R h h') (hR : ∀ x, x < h.size → R x → o x ≠ k + 30 ∧ o x ≠ k + 31) (ho : Old h o o') : OutF o' k h' ob evs := by
  obtain ⟨p, c, ow, T, ht⟩ := S.ex
  have tg := S.tag
  exact ⟨⟨p, c, ow.fr f fun hr => (hR _ ow.lt hr).1 tg, T.fr f fun x hx hr => (hR _ (T.lt hx) hr).2 (ht x hx), fun x hx => by rw [ho x (T.lt hx)]; exact ht x hx⟩, by rw [ho _ ow.lt]; exact tg⟩
/-- An event is added. -/
theorem add_c [Gh] {ob : Addr} {evs : List Ev} (A : OutF o k h ob evs) (e : Ev) (hl : evs.length ≤ 2 ^ 29) {Q : Value → Heap → Prop}
    (hk : ∀ o' h', Old h o o' → Fr (fun x => o x = k + 30 ∨ o x = k + 31) h h' → OutF o' k h' ob (evs ++ [e]) → Q (.tuple #[]) h') :
    CallT Tryd.prog fn_smtp_Session_Feed_1 #[.int .i64 e.Kind, .int .i64 e.Dir, .string (bs e.Name), .string (bs e.Text), .pointer (some ob)] h Q := by
  obtain ⟨p, c, ow, T, ht⟩ := A.ex
  have tg := A.tag
  have lt := ow.lt
  apply smtp_Session_Feed_1_s
  unfold smtp_Session_Feed_1_v
  refine ldL_mk (ow.cells.at0 rfl) ?_
  refine al_mk (vs := evV e) fun t15 h1 f1 e1 o1 => ?_
  have z1 := f1.size
  refine appEv (T.fr0 f1) o1 hl fun p2 c2 h2 T2 f2 hn2 => ⟨_, _, _, rfl, ?_⟩
  have ow2 := (ow.fr0 f1).fr f2 fun hi => by have := ht _ hi; omega
  refine st1_own0 ow2 (by simp) rfl fun h3 f3 s3 o3 => ?_
  have new : ∀ x, InA p2 x → (upT o h.size (k + 31)) x = k + 31 := fun x hx => by
    rcases hn2 x hx with h | h
    · rw [upT_lt (T.lt h)]; exact ht x h
    · exact upT_ge (by omega)
  refine hk (upT o h.size (k + 31)) h3 (Old.up (Nat.le_refl _)) (((f1.mono fun _ h => h.elim).trans (f2.mono fun x hx => .inr (ht x hx))).trans (f3.mono fun x hx => .inl (by subst hx; exact tg))) ⟨⟨p2, c2, o3, T2.fr f3 fun x hx hb => ?_, new⟩, by rw [upT_lt lt]; exact tg⟩
  subst hb
  have := new _ hx
  rw [upT_lt lt] at this
  omega
theorem addV_c [Gh] {ob : Addr} {evs : List Ev} (A : OutF o k h ob evs) (e : Ev) (hl : evs.length ≤ 2 ^ 29) {Q : Value → Heap → Prop}
    (hk : ∀ o' h', Old h o o' → Fr (fun x => o x = k + 30 ∨ o x = k + 31) h h' → OutF o' k h' ob (evs ++ [e]) → Q (.tuple #[]) h') :
    CallV Tryd.prog (.func (.func fn_smtp_Session_Feed_1) #[] #[.pointer (some ob)]) #[.int .i64 e.Kind, .int .i64 e.Dir, .string (bs e.Name), .string (bs e.Text)] h Q := callV_func.2 (add_c A e hl hk)
end
/-! ### Items -/
theorem callI_run [Gh] {P : Program} {t : TypeId} {v : Value} {name : String} {args : Array Value} {f : FuncId} {h : Heap} {K : Value → Heap → Prop}
    (hm : ∀ w : World, (Go.method (P.types.size + Made.depth) t v name).run P w = .ok (f, v) w) (hc : CallT P f (#[v] ++ args) h K) : CallI P (.iface t v) name args h K := by
  intro w hw hs
  have hc := hc w hw hs
  have e : (callMethod (.iface t v) name args).run P w = (callFunc f (#[v] ++ args)).run P w := by
    show (Sem.bind (program) fun p => _).run P w = _
    unfold program
    simp only [Sem.bind, Sem.run]
    exact runBind (hm w)
  rw [e]; exact hc
theorem openI_c [Gh] (i : Option Nm) {h : Heap} {Q : Value → Heap → Prop} (hk : ∀ h', Fr (fun _ => False) h h' → Q (.bool (openI i)) h') {x : Value} (hx : [x] = itV i) : CallI Tryd.prog x "intrusion/smtp.open" #[] h Q := by
  cases i with
  | none =>
    cases hx
    refine callI_run (f := fn_smtp_mail_open) (fun w => by kernel_rfl) ?_
    apply smtp_mail_open_s
    unfold smtp_mail_open_v
    exact al_mk (vs := []) fun t1 h1 f1 e1 o1 => hk h1 f1
  | some v =>
    cases hx
    refine callI_run (f := fn_smtp_command_open) (fun w => by kernel_rfl) ?_
    apply smtp_command_open_s
    unfold smtp_command_open_v
    refine al_mk (vs := [.string (bs v)]) fun t1 h1 f1 e1 o1 => ?_
    have hk := hk h1 f1
    unfold openI at hk
    dsimp only at hk
    refine ldS_mk (o1.cells.at0 rfl) (ifS (m := kDATA) (fun e => ?_) fun e => ?_)
    · rw [decide_eq_true e] at hk; exact hk
    · refine ldS_mk (o1.cells.at0 rfl) ?_
      rw [decide_eq_false e, Bool.false_or] at hk
      refine Qeq hk ?_
      have e1 : (⟨#[83, 84, 65, 82, 84, 84, 76, 83]⟩ : ByteArray) = bs kTLS := rfl
      rw [e1, bs_toList, bs_toList]
      congr 1
      rw [Bool.eq_iff_iff, decide_eq_true_iff, beq_iff_eq]
end Go.Proofs.YtdpimhlppflidaaDoor
