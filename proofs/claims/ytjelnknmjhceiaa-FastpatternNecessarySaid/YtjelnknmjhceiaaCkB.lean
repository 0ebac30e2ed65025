/-
  The reference's check of a rule: what holds where it finds no error.
-/
import Derived.Test.YtjelnknmjhceiaaCkA
import Derived.Test.YtjelnknmjhceiaaCtB
namespace Go.Proofs.Ytjelnknmjhceiaa.Au
set_option linter.unusedSimpArgs false
set_option linter.unusedVariables false
set_option maxRecDepth 20000
open Go
open Go.IntKind (wrap)
/-- What a checked rule is. -/
structure Checked (r : S_api_Rule) : Prop where
  act : 1 ≤ r.Action ∧ r.Action ≤ 4
  proto : r.Proto = 6 ∨ r.Proto = 17
  sid : 1 ≤ r.Sid ∧ r.Sid < 4294967296
  prio : 1 ≤ r.Priority ∧ r.Priority ≤ 4
  dir : 0 ≤ r.Dir ∧ r.Dir ≤ 2
  kind : 1 ≤ r.Kind ∧ r.Kind ≤ 18
  msg : r.Msg.length ≤ 128
  trn : r.Transforms.xs.length ≤ 4
  conn : r.Contents.xs.length ≤ 8
  tesn : r.Tests.xs.length ≤ 8
  flon : r.Flow.xs.length ≤ 8
  src : r.Src.xs.length ≤ 64
  dst : r.Dst.xs.length ≤ 64
  sp : r.SrcPorts.xs.length ≤ 64
  dp : r.DstPorts.xs.length ≤ 64
  tr : ∀ x ∈ r.Transforms.xs, 1 ≤ x ∧ x ≤ 6
  con : ∀ c ∈ r.Contents.xs, 1 ≤ c.Pattern.length ∧ c.Pattern.length ≤ 64 ∧ -1024 ≤ c.Offset ∧ c.Offset ≤ 1024 ∧ 0 ≤ c.Depth ∧ c.Depth ≤ 1024
  tes : ∀ t ∈ r.Tests.xs, -1024 ≤ t.Offset ∧ t.Offset ≤ 1024
  flo : ∀ f ∈ r.Flow.xs, f.Name.length ≤ 32 ∧ 1 ≤ f.Op ∧ f.Op ≤ 4
theorem Checked.okC {r : S_api_Rule} (K : Checked r) : ∀ c ∈ r.Contents.xs, OkC c := fun c hc => by
  have := K.con c hc; exact ⟨by omega, by omega, by omega, by omega, by omega⟩
theorem Checked.okT {r : S_api_Rule} (K : Checked r) : ∀ t ∈ r.Tests.xs, OkT t := fun t ht => by
  have := K.tes t ht; exact ⟨by omega, by omega⟩
section
variable {h : Heap} {Q : Value → Heap → Prop}
theorem take_all {α : Type} {l : List α} {P : α → Prop} {i : Nat} (hi : i < l.length) (h : ∀ x ∈ l.take i, P x) (hx : P l[i]) : ∀ x ∈ l.take (i + 1), P x := fun x hm => by
  rw [show l.take (i + 1) = l.take i ++ [l[i]] by rw [List.take_append_getElem]] at hm
  rcases List.mem_append.1 hm with hm | hm
  · exact h x hm
  · rw [List.mem_singleton.1 hm]; exact hx
theorem basic_c [Gh] (r : S_api_Rule) (hk : ∀ (b : Bool) h', Fr (fun _ => False) h h' → (b = true → (1 ≤ r.Action ∧ r.Action ≤ 4) ∧ (r.Proto = 6 ∨ r.Proto = 17) ∧ (1 ≤ r.Sid ∧ r.Sid < 4294967296) ∧ (1 ≤ r.Priority ∧ r.Priority ≤ 4) ∧ (0 ≤ r.Dir ∧ r.Dir ≤ 2) ∧ (1 ≤ r.Kind ∧ r.Kind ≤ 18)) → Q (.bool b) h') :
    CallT Try.prog fn_ref43_basic #[.agg r.vals.toArray] h Q := by
  apply ref43_basic_s
  unfold ref43_basic_v
  refine al_mk (vs := r.vals) fun t1 h1 f1 e1 o1 => ?_
  have c1 : Cells h1 t1 r.vals := o1.cells
  have no : Q (.bool false) h1 := hk _ h1 f1 fun h => by cases h
  have rest : 1 ≤ r.Action → r.Action ≤ 4 → (r.Proto = 6 ∨ r.Proto = 17) → ldI h1 (Addr.add t1 7) .i64 fun t23 => if (decide (t23 ≥ 1)) = true then (ldI h1 (Addr.add t1 7) .i64 fun t28 => if (decide (t28 < 4294967296)) = true then (ldI h1 (Addr.add t1 8) .i64 fun t33 => if (decide (t33 ≥ 1)) = true then (ldI h1 (Addr.add t1 8) .i64 fun t38 => if (decide (t38 ≤ 65535)) = true then (ldI h1 (Addr.add t1 9) .i64 fun t43 => if (decide (t43 ≥ 1)) = true then (ldI h1 (Addr.add t1 9) .i64 fun t48 => if (decide (t48 ≤ 4)) = true then (ldI h1 (Addr.add t1 11) .i64 fun t53 => if (decide (t53 ≥ 0)) = true then (ldI h1 (Addr.add t1 11) .i64 fun t58 => if (decide (t58 ≤ 2)) = true then (ldI h1 (Addr.add t1 12) .i64 fun t63 => if (decide (t63 ≥ 1)) = true then (ldI h1 (Addr.add t1 12) .i64 fun t68 => Q (.bool (decide (t68 ≤ 18))) h1) else (Q (.bool false) h1)) else (Q (.bool false) h1)) else (Q (.bool false) h1)) else (Q (.bool false) h1)) else (Q (.bool false) h1)) else (Q (.bool false) h1)) else (Q (.bool false) h1)) else (Q (.bool false) h1)) else (Q (.bool false) h1) := fun a1 a2 a3 => by
    refine ldI_mk (c1.at (j := 7) rfl) (ifD (fun b1 => ?_) fun _ => no)
    refine ldI_mk (c1.at (j := 7) rfl) (ifD (fun b2 => ?_) fun _ => no)
    refine ldI_mk (c1.at (j := 8) rfl) (ifD (fun b3 => ?_) fun _ => no)
    refine ldI_mk (c1.at (j := 8) rfl) (ifD (fun b4 => ?_) fun _ => no)
    refine ldI_mk (c1.at (j := 9) rfl) (ifD (fun b5 => ?_) fun _ => no)
    refine ldI_mk (c1.at (j := 9) rfl) (ifD (fun b6 => ?_) fun _ => no)
    refine ldI_mk (c1.at (j := 11) rfl) (ifD (fun b7 => ?_) fun _ => no)
    refine ldI_mk (c1.at (j := 11) rfl) (ifD (fun b8 => ?_) fun _ => no)
    refine ldI_mk (c1.at (j := 12) rfl) (ifD (fun b9 => ?_) fun _ => no)
    refine ldI_mk (c1.at (j := 12) rfl) (hk _ h1 f1 fun e => ?_)
    exact ⟨⟨a1, a2⟩, a3, ⟨b1, b2⟩, ⟨b5, b6⟩, ⟨b7, b8⟩, b9, of_decide_eq_true e⟩
  refine ldI_mk (c1.at0 rfl) (ifD (fun a1 => ldI_mk (c1.at0 rfl) (ifD (fun a2 => ?_) fun _ => no)) fun _ => no)
  refine ldI_mk (c1.at (j := 1) rfl) (ifE (fun a3 => rest a1 a2 (.inl a3)) fun _ => ldI_mk (c1.at (j := 1) rfl) (ifE (fun a3 => rest a1 a2 (.inr a3)) fun _ => no))
theorem typed_c [Gh] (r : S_api_Rule) (hk : ∀ (b : Bool) h', Fr (fun _ => False) h h' → Q (.bool b) h') : CallT Try.prog fn_ref43_typed #[.agg r.vals.toArray] h Q := by
  apply ref43_typed_s
  unfold ref43_typed_v
  refine al_mk (vs := r.vals) fun t1 h1 f1 e1 o1 => ?_
  have c1 : Cells h1 t1 r.vals := o1.cells
  refine ldI_mk (c1.at (j := 1) rfl) (ifE (fun _ => ldI_mk (c1.at (j := 12) rfl) (hk _ h1 f1)) fun _ => ?_)
  refine ldI_mk (c1.at (j := 12) rfl) (ifE (fun _ => hk _ h1 f1) fun _ => ldI_mk (c1.at (j := 12) rfl) (ifE (fun _ => hk _ h1 f1) fun _ => ldI_mk (c1.at (j := 12) rfl) (ifE (fun _ => hk _ h1 f1) fun _ => ldI_mk (c1.at (j := 12) rfl) (hk _ h1 f1))))
theorem sizes_c [Gh] (r : S_api_Rule) (hk : ∀ (b : Bool) h', Fr (fun _ => False) h h' → (b = true → r.Msg.length ≤ 128 ∧ r.Transforms.xs.length ≤ 4 ∧ r.Contents.xs.length ≤ 8 ∧ r.Tests.xs.length ≤ 8 ∧ r.Flow.xs.length ≤ 8 ∧ r.Src.xs.length ≤ 64 ∧ r.Dst.xs.length ≤ 64 ∧ r.SrcPorts.xs.length ≤ 64 ∧ r.DstPorts.xs.length ≤ 64) → Q (.bool b) h') :
    CallT Try.prog fn_ref43_sizes #[.agg r.vals.toArray] h Q := by
  apply ref43_sizes_s
  unfold ref43_sizes_v
  refine al_mk (vs := r.vals) fun t1 h1 f1 e1 o1 => ?_
  have c1 : Cells h1 t1 r.vals := o1.cells
  have no : Q (.bool false) h1 := hk _ h1 f1 fun h => by cases h
  refine ldS_mk (c1.at (j := 10) rfl) ?_
  rw [bs_size]
  refine ifD (fun b0 => ?_) fun _ => no
  refine ldL_mk (c1.at (j := 13) rfl) (ifD (fun b1 => ?_) fun _ => no)
  refine ldL_mk (c1.at (j := 14) rfl) (ifD (fun b2 => ?_) fun _ => no)
  refine ldL_mk (c1.at (j := 15) rfl) (ifD (fun b3 => ?_) fun _ => no)
  refine ldL_mk (c1.at (j := 16) rfl) (ifD (fun b4 => ?_) fun _ => no)
  refine ldL_mk (c1.at (j := 2) rfl) (ifD (fun b5 => ?_) fun _ => no)
  refine ldL_mk (c1.at (j := 3) rfl) (ifD (fun b6 => ?_) fun _ => no)
  refine ldL_mk (c1.at (j := 4) rfl) (ifD (fun b7 => ?_) fun _ => no)
  refine ldL_mk (c1.at (j := 5) rfl) (hk _ h1 f1 fun e => ?_)
  have e := of_decide_eq_true e
  exact ⟨by omega, by omega, by omega, by omega, by omega, by omega, by omega, by omega, by omega⟩
theorem offset_c [Gh] (n : Int) (rel : Bool) (hk : ∀ b : Bool, (b = true → -1024 ≤ n ∧ n ≤ 1024) → Q (.bool b) h) : CallT Try.prog fn_ref43_offset #[.int .i64 n, .bool rel] h Q := by
  apply ref43_offset_s
  unfold ref43_offset_v
  have no : Q (.bool false) h := hk _ fun h => by cases h
  refine ifD (fun e1 => ifD (fun e2 => hk _ fun _ => by omega) fun e2 => ifB (fun _ => hk _ fun e => ?_) fun _ => no) fun _ => no
  have := of_decide_eq_true e; omega
theorem addrNames_c [Gh] (l : Sl S_api_AddrTerm) (o : SlOk 6 S_api_AddrTerm.vals S_api_AddrTerm.ok h l) (hk : ∀ b : Bool, Q (.bool b) h) : CallT Try.prog fn_ref43_addrNames #[.slice l.p l.xs.length l.cap] h Q := by
  apply ref43_addrNames_s
  unfold ref43_addrNames_v
  have hcap := o.cap
  refine LoopV.go (fun n st h' => ∃ i : Nat, st = (i : Int) ∧ i ≤ l.xs.length ∧ n = l.xs.length - i ∧ h' = h) l.xs.length ⟨0, rfl, by omega, rfl, rfl⟩ ?_
  rintro n - h1 ⟨i, rfl, hi, rfl, rfl⟩ Kn hK
  unfold ref43_addrNames_l1
  refine ifD (fun e => ?_) fun _ => hk _
  have hil : i < l.xs.length := by omega
  refine idx_sl o i rfl hil fun ad c _ => ?_
  rw [Int.toNat_natCast]
  have nx : Kn (wrap .i64 ((i : Int) + 1)) h1 := by
    rw [wr (by omega) (by omega)]
    exact hK (l.xs.length - (i + 1)) _ _ (by omega) ⟨i + 1, rfl, hil, rfl, rfl⟩
  refine ldS_mk (c.at (j := 1) rfl) (ifSn (m := []) (fun _ => ?_) fun _ => nx)
  refine idx_sl o i rfl hil fun ad c _ => ?_
  refine ldS_mk (c.at (j := 1) rfl) (IsName_c _ fun b _ => ⟨b, rfl, ifN (fun _ => hk _) fun _ => nx⟩)
theorem portNames_c [Gh] (l : Sl S_api_PortTerm) (o : SlOk 4 S_api_PortTerm.vals S_api_PortTerm.ok h l) (hk : ∀ b : Bool, Q (.bool b) h) : CallT Try.prog fn_ref43_portNames #[.slice l.p l.xs.length l.cap] h Q := by
  apply ref43_portNames_s
  unfold ref43_portNames_v
  have hcap := o.cap
  refine LoopV.go (fun n st h' => ∃ i : Nat, st = (i : Int) ∧ i ≤ l.xs.length ∧ n = l.xs.length - i ∧ h' = h) l.xs.length ⟨0, rfl, by omega, rfl, rfl⟩ ?_
  rintro n - h1 ⟨i, rfl, hi, rfl, rfl⟩ Kn hK
  unfold ref43_portNames_l1
  refine ifD (fun e => ?_) fun _ => hk _
  have hil : i < l.xs.length := by omega
  refine idx_sl o i rfl hil fun ad c _ => ?_
  rw [Int.toNat_natCast]
  have nx : Kn (wrap .i64 ((i : Int) + 1)) h1 := by
    rw [wr (by omega) (by omega)]
    exact hK (l.xs.length - (i + 1)) _ _ (by omega) ⟨i + 1, rfl, hil, rfl, rfl⟩
  refine ldS_mk (c.at (j := 1) rfl) (ifSn (m := []) (fun _ => ?_) fun _ => nx)
  refine idx_sl o i rfl hil fun ad c _ => ?_
  refine ldS_mk (c.at (j := 1) rfl) (IsName_c _ fun b _ => ⟨b, rfl, ifN (fun _ => hk _) fun _ => nx⟩)
theorem flowNames_c [Gh] (l : Sl S_api_FlowOp) (o : SlOk 2 S_api_FlowOp.vals S_api_FlowOp.ok h l) (hk : ∀ b : Bool, (b = true → ∀ f ∈ l.xs, f.Name.length ≤ 32) → Q (.bool b) h) : CallT Try.prog fn_ref43_flowNames #[.slice l.p l.xs.length l.cap] h Q := by
  apply ref43_flowNames_s
  unfold ref43_flowNames_v
  have hcap := o.cap
  refine LoopV.go (fun n st h' => ∃ i : Nat, st = (i : Int) ∧ i ≤ l.xs.length ∧ n = l.xs.length - i ∧ h' = h ∧ ∀ f ∈ l.xs.take i, f.Name.length ≤ 32) l.xs.length ⟨0, rfl, by omega, rfl, rfl, by simp⟩ ?_
  rintro n - h1 ⟨i, rfl, hi, rfl, rfl, ha⟩ Kn hK
  unfold ref43_flowNames_l1
  refine ifD (fun e => ?_) fun e => hk true fun _ => ?_
  · have hil : i < l.xs.length := by omega
    refine idx_sl o i rfl hil fun ad c _ => ?_
    rw [Int.toNat_natCast]
    refine ldS_mk (c.at (j := 1) rfl) (IsName_c _ fun b hb => ⟨b, rfl, ifN (fun _ => hk _ fun h => by cases h) fun e2 => ?_⟩)
    rw [wr (by omega) (by omega)]
    exact hK (l.xs.length - (i + 1)) _ _ (by omega) ⟨i + 1, rfl, hil, rfl, rfl, take_all hil ha (hb e2)⟩
  · have : i = l.xs.length := by omega
    subst this
    rw [List.take_length] at ha; exact ha
theorem contents_c [Gh] (l : Sl Cn) (o : SlOk 7 S_api_Content.vals S_api_Content.ok h l) (hk : ∀ (e : Int) h', Fr (fun _ => False) h h' → (e = 0 → ∀ c ∈ l.xs, 1 ≤ c.Pattern.length ∧ c.Pattern.length ≤ 64 ∧ -1024 ≤ c.Offset ∧ c.Offset ≤ 1024 ∧ 0 ≤ c.Depth ∧ c.Depth ≤ 1024) → Q (.int .i64 e) h') : CallT Try.prog fn_ref43_contents #[.slice l.p l.xs.length l.cap] h Q := by
  apply ref43_contents_s
  unfold ref43_contents_v
  have hcap := o.cap
  refine LoopV.go (fun n st h' => ∃ i : Nat, st = (i : Int) ∧ i ≤ l.xs.length ∧ n = l.xs.length - i ∧ Fr (fun _ => False) h h' ∧ ∀ c ∈ l.xs.take i, 1 ≤ c.Pattern.length ∧ c.Pattern.length ≤ 64 ∧ -1024 ≤ c.Offset ∧ c.Offset ≤ 1024 ∧ 0 ≤ c.Depth ∧ c.Depth ≤ 1024) l.xs.length ⟨0, rfl, by omega, rfl, Fr.refl _ _, by simp⟩ ?_
  rintro n - h1 ⟨i, rfl, hi, rfl, f1, ha⟩ Kn hK
  unfold ref43_contents_l1
  refine ifD (fun e => ?_) fun e => hk 0 h1 f1 fun _ => ?_
  · have hil : i < l.xs.length := by omega
    refine idx_sl (SlOk.fr0 S_api_Content.ok_fr f1 o) i rfl hil fun ad c _ => ?_
    rw [Int.toNat_natCast]
    refine ldS_mk (c.at0 rfl) (ldB_mk (c.at (j := 1) rfl) (ldB_mk (c.at (j := 2) rfl) (ldB_mk (c.at (j := 3) rfl) (ldI_mk (c.at (j := 4) rfl) (ldI_mk (c.at (j := 5) rfl) (ldB_mk (c.at (j := 6) rfl) ?_))))))
    refine al_mk (vs := [.string (bs []), .bool false, .bool false, .bool false, .int .i64 0, .int .i64 0, .bool false]) fun t4 h2 f2 e2 o2 => ?_
    refine stN_own o2 (ws := l.xs[i].vals) (by rfl) (by rfl) fun h3 f3 s3 o3 => ?_
    have f13 : Fr (fun _ => False) h h3 := f1.trans (f2.tr f3 fun b hb hi => by omega)
    have c3 : Cells h3 t4 l.xs[i].vals := o3.cells
    have no : ∀ e : Int, e ≠ 0 → Q (.int .i64 e) h3 := fun e he => hk _ h3 f13 fun h => absurd h he
    refine ldS_mk (c3.at0 rfl) ?_
    rw [bs_size]
    refine ifD (fun _ => no _ (by decide)) fun b1 => ?_
    refine ldS_mk (c3.at0 rfl) ?_
    rw [bs_size]
    refine ifD (fun _ => no _ (by decide)) fun b2 => ?_
    refine ldI_mk (c3.at (j := 4) rfl) (ldB_mk (c3.at (j := 3) rfl) (offset_c _ _ fun b hb => ⟨b, rfl, ifN (fun _ => no _ (by decide)) fun b3 => ?_⟩))
    have hb := hb b3
    refine ldI_mk (c3.at (j := 5) rfl) (ifD (fun _ => no _ (by decide)) fun b4 => ldI_mk (c3.at (j := 5) rfl) (ifD (fun _ => no _ (by decide)) fun b5 => ?_))
    rw [wr (by omega) (by omega)]
    exact hK (l.xs.length - (i + 1)) _ _ (by omega) ⟨i + 1, rfl, hil, rfl, f13, take_all hil ha ⟨by omega, by omega, hb.1, hb.2, by omega, by omega⟩⟩
  · have : i = l.xs.length := by omega
    subst this
    rw [List.take_length] at ha; exact ha
theorem tests_ok [Gh] (l : Sl Ts) (o : SlOk 7 S_api_Test.vals S_api_Test.ok h l) (hk : ∀ (b : Bool) h', Fr (fun _ => False) h h' → (b = true → ∀ t ∈ l.xs, -1024 ≤ t.Offset ∧ t.Offset ≤ 1024) → Q (.bool b) h') : CallT Try.prog fn_ref43_tests #[.slice l.p l.xs.length l.cap] h Q := by
  apply ref43_tests_s
  unfold ref43_tests_v
  have hcap := o.cap
  refine LoopV.go (fun n st h' => ∃ i : Nat, st = (i : Int) ∧ i ≤ l.xs.length ∧ n = l.xs.length - i ∧ Fr (fun _ => False) h h' ∧ ∀ t ∈ l.xs.take i, -1024 ≤ t.Offset ∧ t.Offset ≤ 1024) l.xs.length ⟨0, rfl, by omega, rfl, Fr.refl _ _, by simp⟩ ?_
  rintro n - h1 ⟨i, rfl, hi, rfl, f1, ha⟩ Kn hK
  unfold ref43_tests_l1
  refine ifD (fun e => ?_) fun e => hk true h1 f1 fun _ => ?_
  · have hil : i < l.xs.length := by omega
    refine idx_sl (SlOk.fr0 S_api_Test.ok_fr f1 o) i rfl hil fun ad c _ => ?_
    rw [Int.toNat_natCast]
    refine ldI_mk (c.at0 rfl) (ldI_mk (c.at (j := 1) rfl) (ldI_mk (c.at (j := 2) rfl) (ldI_mk (c.at (j := 3) rfl) (ldB_mk (c.at (j := 4) rfl) (ldB_mk (c.at (j := 5) rfl) (ldB_mk (c.at (j := 6) rfl) ?_))))))
    refine al_mk (vs := [.int .i64 0, .int .i64 0, .int .i64 0, .int .i64 0, .bool false, .bool false, .bool false]) fun t4 h2 f2 e2 o2 => ?_
    refine stN_own o2 (ws := l.xs[i].vals) (by rfl) (by rfl) fun h3 f3 s3 o3 => ?_
    have f13 : Fr (fun _ => False) h h3 := f1.trans (f2.tr f3 fun b hb hi => by omega)
    have c3 : Cells h3 t4 l.xs[i].vals := o3.cells
    have no : Q (.bool false) h3 := hk _ h3 f13 fun h => by cases h
    have last : ldI h3 (Addr.add t4 3) .i64 fun t55 => ldB h3 (Addr.add t4 4) fun t57 => CallT Try.prog fn_ref43_offset #[.int .i64 t55, .bool t57] h3 fun v h3 => ∃ t58 : Bool, v = .bool t58 ∧ if (!t58) = true then (Q (.bool false) h3) else (Kn (wrap .i64 ((i : Int) + 1)) h3) :=
      ldI_mk (c3.at (j := 3) rfl) (ldB_mk (c3.at (j := 4) rfl) (offset_c _ _ fun b hb => ⟨b, rfl, ifN (fun _ => no) fun b3 => by
        rw [wr (by omega) (by omega)]
        exact hK (l.xs.length - (i + 1)) _ _ (by omega) ⟨i + 1, rfl, hil, rfl, f13, take_all hil ha (hb b3)⟩⟩))
    refine ldI_mk (c3.at0 rfl) (ifD (fun _ => no) fun _ => ldI_mk (c3.at0 rfl) (ifD (fun _ => no) fun _ => ?_))
    refine ldI_mk (c3.at (j := 1) rfl) (ifNe (fun _ => ldI_mk (c3.at (j := 1) rfl) (ifNe (fun _ => ldI_mk (c3.at (j := 1) rfl) (ifNe (fun _ => no) fun _ => ?_)) fun _ => ?_)) fun _ => ?_)
    · exact ldI_mk (c3.at (j := 2) rfl) (ifD (fun _ => no) fun _ => ldI_mk (c3.at (j := 2) rfl) (ldI_mk (c3.at (j := 1) rfl) ⟨wr64 _, ifD (fun _ => no) fun _ => last⟩))
    · exact ldI_mk (c3.at (j := 2) rfl) (ifD (fun _ => no) fun _ => ldI_mk (c3.at (j := 2) rfl) (ldI_mk (c3.at (j := 1) rfl) ⟨wr64 _, ifD (fun _ => no) fun _ => last⟩))
    · exact ldI_mk (c3.at (j := 2) rfl) (ifD (fun _ => no) fun _ => ldI_mk (c3.at (j := 2) rfl) (ldI_mk (c3.at (j := 1) rfl) ⟨wr64 _, ifD (fun _ => no) fun _ => last⟩))
  · have : i = l.xs.length := by omega
    subst this
    rw [List.take_length] at ha; exact ha
theorem port_c [Gh] (t : S_api_PortTerm) (hk : ∀ (b : Bool) h', Fr (fun _ => False) h h' → Q (.bool b) h') : CallT Try.prog fn_ref43_port #[.agg t.vals.toArray] h Q := by
  apply ref43_port_s
  unfold ref43_port_v
  refine al_mk (vs := t.vals) fun t1 h1 f1 e1 o1 => ?_
  have c1 : Cells h1 t1 t.vals := o1.cells
  refine ldS_mk (c1.at (j := 1) rfl) (ifSn (m := []) (fun _ => hk _ h1 f1) fun _ => ?_)
  exact ldI_mk (c1.at (j := 2) rfl) (ifD (fun _ => ldI_mk (c1.at (j := 2) rfl) (ldI_mk (c1.at (j := 3) rfl) (ifD (fun _ => ldI_mk (c1.at (j := 3) rfl) (hk _ h1 f1)) fun _ => hk _ h1 f1))) fun _ => hk _ h1 f1)
theorem ports_c [Gh] (l : Sl S_api_PortTerm) (o : SlOk 4 S_api_PortTerm.vals S_api_PortTerm.ok h l) (hk : ∀ (b : Bool) h', Fr (fun _ => False) h h' → Q (.bool b) h') : CallT Try.prog fn_ref43_ports #[.slice l.p l.xs.length l.cap] h Q := by
  apply ref43_ports_s
  unfold ref43_ports_v
  have hcap := o.cap
  refine LoopV.go (fun n st h' => ∃ i : Nat, st = (i : Int) ∧ i ≤ l.xs.length ∧ n = l.xs.length - i ∧ Fr (fun _ => False) h h') l.xs.length ⟨0, rfl, by omega, rfl, Fr.refl _ _⟩ ?_
  rintro n - h1 ⟨i, rfl, hi, rfl, f1⟩ Kn hK
  unfold ref43_ports_l1
  refine ifD (fun e => ?_) fun _ => hk _ h1 f1
  have hil : i < l.xs.length := by omega
  refine idx_sl (SlOk.fr0 S_api_PortTerm.ok_fr f1 o) i rfl hil fun ad c _ => ?_
  rw [Int.toNat_natCast]
  refine ldB_mk (c.at0 rfl) (ldS_mk (c.at (j := 1) rfl) (ldI_mk (c.at (j := 2) rfl) (ldI_mk (c.at (j := 3) rfl) ?_)))
  refine port_c l.xs[i] fun b h2 f2 => ⟨b, rfl, ifN (fun _ => hk _ h2 (f1.trans f2)) fun _ => ?_⟩
  rw [wr (by omega) (by omega)]
  exact hK (l.xs.length - (i + 1)) _ _ (by omega) ⟨i + 1, rfl, hil, rfl, f1.trans f2⟩
theorem Threshold_c [Gh] (t : S_api_Threshold) (hk : ∀ (b : Bool) h', Fr (fun _ => False) h h' → Q (.bool b) h') : CallT Try.prog fn_ref43_Threshold #[.agg t.vals.toArray] h Q := by
  apply ref43_Threshold_s
  unfold ref43_Threshold_v
  refine al_mk (vs := t.vals) fun t1 h1 f1 e1 o1 => ?_
  have c1 : Cells h1 t1 t.vals := o1.cells
  have q : ∀ b : Bool, Q (.bool b) h1 := fun b => hk b h1 f1
  refine ldI_mk (c1.at0 rfl) (ifE (fun _ => ldI_mk (c1.at0 rfl) (ldI_mk (c1.at (j := 1) rfl) (ldI_mk (c1.at (j := 2) rfl) (ldI_mk (c1.at (j := 3) rfl) (q _))))) fun _ => ?_)
  refine ldI_mk (c1.at0 rfl) (ifD (fun _ => ldI_mk (c1.at0 rfl) (ifD (fun _ => ?_) fun _ => q _)) fun _ => q _)
  refine ldI_mk (c1.at (j := 1) rfl) (ifD (fun _ => ldI_mk (c1.at (j := 1) rfl) (ifD (fun _ => ?_) fun _ => q _)) fun _ => q _)
  refine ldI_mk (c1.at (j := 2) rfl) (ifD (fun _ => ldI_mk (c1.at (j := 2) rfl) (ifD (fun _ => ?_) fun _ => q _)) fun _ => q _)
  exact ldI_mk (c1.at (j := 3) rfl) (ifD (fun _ => ldI_mk (c1.at (j := 3) rfl) (q _)) fun _ => q _)
theorem numbers_c [Gh] (r : S_api_Rule) (ok : S_api_Rule.ok h r) (hk : ∀ (b : Bool) h', Fr (fun _ => False) h h' → (b = true → ∀ f ∈ r.Flow.xs, 1 ≤ f.Op ∧ f.Op ≤ 4) → Q (.bool b) h') : CallT Try.prog fn_ref43_numbers #[.agg r.vals.toArray] h Q := by
  apply ref43_numbers_s
  unfold ref43_numbers_v
  refine al_mk (vs := r.vals) fun t1 h1 f1 e1 o1 => ?_
  have c1 : Cells h1 t1 r.vals := o1.cells
  have o1 := S_api_Rule.ok_fr _ _ _ f1 ok
  have hcap := o1.k16.cap
  refine LoopV.go (fun n st h' => ∃ i : Nat, st = (i : Int) ∧ i ≤ r.Flow.xs.length ∧ n = r.Flow.xs.length - i ∧ h' = h1 ∧ ∀ f ∈ r.Flow.xs.take i, 1 ≤ f.Op ∧ f.Op ≤ 4) r.Flow.xs.length ⟨0, rfl, by omega, rfl, rfl, by simp⟩ ?_
  rintro n - h2 ⟨i, rfl, hi, rfl, rfl, ha⟩ Kn hK
  have no : Q (.bool false) h2 := hk _ h2 f1 fun h => by cases h
  unfold ref43_numbers_l1
  refine ldL_mk (c1.at (j := 16) rfl) (ifD (fun e => ?_) fun e => ?_)
  · have hil : i < r.Flow.xs.length := by omega
    refine ldL_mk (c1.at (j := 16) rfl) (idx_sl o1.k16 i rfl hil fun ad c _ => ?_)
    rw [Int.toNat_natCast]
    refine ldI_mk (c.at0 rfl) (ifD (fun _ => no) fun b1 => ldL_mk (c1.at (j := 16) rfl) (idx_sl o1.k16 i rfl hil fun ad c _ => ldI_mk (c.at0 rfl) (ifD (fun _ => no) fun b2 => ?_)))
    rw [wr (by omega) (by omega)]
    exact hK (r.Flow.xs.length - (i + 1)) _ _ (by omega) ⟨i + 1, rfl, hil, rfl, rfl, take_all hil ha ⟨by omega, by omega⟩⟩
  · have : i = r.Flow.xs.length := by omega
    subst this
    rw [List.take_length] at ha
    unfold ref43_numbers_b2
    refine ldL_mk (c1.at (j := 4) rfl) (ports_c r.SrcPorts o1.k4 fun b h3 f3 => ⟨b, rfl, ifB (fun _ => ?_) fun _ => hk _ h3 (f1.trans f3) fun h => by cases h⟩)
    have c3 := c1.fr0 f3
    have o3 := S_api_Rule.ok_fr _ _ _ f3 o1
    refine ldL_mk (c3.at (j := 5) rfl) (ports_c r.DstPorts o3.k5 fun b h4 f4 => ⟨b, rfl, ifB (fun _ => ?_) fun _ => hk _ h4 ((f1.trans f3).trans f4) fun h => by cases h⟩)
    have c4 := c3.fr0 f4
    refine ldI_mk (c4.at (j := 17) rfl) (ldI_mk (c4.at (j := 18) rfl) (ldI_mk (c4.at (j := 19) rfl) (ldI_mk (c4.at (j := 20) rfl) ?_)))
    exact Threshold_c r.Threshold fun b h5 f5 => ⟨b, rfl, hk _ h5 (((f1.trans f3).trans f4).trans f5) fun _ => ha⟩
theorem prefixes_c [Gh] (l : Sl S_api_AddrTerm) (o : SlOk 6 S_api_AddrTerm.vals S_api_AddrTerm.ok h l) (hk : ∀ (b : Bool) h', Fr (fun _ => False) h h' → Q (.bool b) h') : CallT Try.prog fn_ref43_prefixes #[.slice l.p l.xs.length l.cap] h Q := by
  apply ref43_prefixes_s
  unfold ref43_prefixes_v
  have hcap := o.cap
  refine LoopV.go (fun n st h' => ∃ i : Nat, st = (i : Int) ∧ i ≤ l.xs.length ∧ n = l.xs.length - i ∧ Fr (fun _ => False) h h') l.xs.length ⟨0, rfl, by omega, rfl, Fr.refl _ _⟩ ?_
  rintro n - h1 ⟨i, rfl, hi, rfl, f1⟩ Kn hK
  unfold ref43_prefixes_l1
  refine ifD (fun e => ?_) fun _ => hk _ h1 f1
  have hil : i < l.xs.length := by omega
  have ol := SlOk.fr0 S_api_AddrTerm.ok_fr f1 o
  refine idx_sl ol i rfl hil fun ad c _ => ?_
  rw [Int.toNat_natCast]
  have nx : ∀ h', Fr (fun _ => False) h1 h' → Kn (wrap .i64 ((i : Int) + 1)) h' := fun h' f => by
    rw [wr (by omega) (by omega)]
    exact hK (l.xs.length - (i + 1)) _ _ (by omega) ⟨i + 1, rfl, hil, rfl, f1.trans f⟩
  refine ldS_mk (c.at (j := 1) rfl) (ifS0 (fun _ => ?_) fun _ => nx h1 (Fr.refl _ _))
  refine idx_sl ol i rfl hil fun ad c _ => ?_
  have a2 : (ad.add (i * 6)).add 2 = (ad.add (i * 6)).add 2 := rfl
  refine ldB_mk (c.at (j := 2) rfl) (ldI_mk (c.at (j := 3) rfl) (ldI_mk (c.at (j := 4) rfl) (ldI_mk (c.at (j := 5) rfl) ?_)))
  exact ValidPrefix_c l.xs[i].Prefix fun b h2 f2 => ⟨b, rfl, ifN (fun _ => hk _ h2 (f1.trans f2)) fun _ => nx h2 f2⟩
theorem fast_c [Gh] (l : Sl Cn) (o : SlOk 7 S_api_Content.vals S_api_Content.ok h l) (hl : l.xs.length ≤ 1000) (hk : ∀ b : Bool, Q (.bool b) h) : CallT Try.prog fn_ref43_fast #[.slice l.p l.xs.length l.cap] h Q := by
  apply ref43_fast_s
  unfold ref43_fast_v
  refine LoopV.go (fun n st h' => ∃ i : Nat, st.2 = (i : Int) ∧ i ≤ l.xs.length ∧ n = l.xs.length - i ∧ h' = h) l.xs.length ⟨0, rfl, by omega, rfl, rfl⟩ ?_
  rintro n ⟨x, y⟩ h1 ⟨i, e0, hi, rfl, rfl⟩ Kn hK
  dsimp only at e0
  subst e0
  dsimp only
  unfold ref43_fast_l1
  refine ifD (fun e => ?_) fun _ => hk _
  have hil : i < l.xs.length := by omega
  refine idx_sl o i rfl hil fun ad c _ => ?_
  rw [Int.toNat_natCast, wr (x := (i : Int) + 1) (by omega) (by omega)]
  have nx : ∀ z, Kn (z, (i : Int) + 1) h1 := fun z => hK (l.xs.length - (i + 1)) _ _ (by omega) ⟨i + 1, rfl, hil, rfl, rfl⟩
  refine ldB_mk (c.at (j := 6) rfl) (ifB (fun _ => ?_) fun _ => nx _)
  exact idx_sl o i rfl hil fun ad c _ => ldB_mk (c.at (j := 2) rfl) (ifB (fun _ => hk _) fun _ => nx _)
theorem Check_c [Gh] (r : S_api_Rule) (ok : S_api_Rule.ok h r) (hk : ∀ (e : Int) h', Fr (fun _ => False) h h' → (e = 0 → Checked r) → Q (.int .i64 e) h') : CallT Try.prog fn_ref43_Check #[.agg r.vals.toArray] h Q := by
  apply ref43_Check_s
  unfold ref43_Check_v
  refine al_mk (vs := r.vals) fun t1 h1 f1 e1 o1 => ?_
  have c1 : Cells h1 t1 r.vals := o1.cells
  have k1 := S_api_Rule.ok_fr _ _ _ f1 ok
  clear o1
  have no : ∀ {h'} (e : Int), Fr (fun _ => False) h1 h' → e ≠ 0 → Q (.int .i64 e) h' := fun e f he => hk e _ (f1.trans f) fun h => absurd h he
  refine (ldI_mk (c1.at0 rfl) (ldI_mk (c1.at rfl) (ldL_mk (c1.at rfl) (ldL_mk (c1.at rfl) (ldL_mk (c1.at rfl) (ldL_mk (c1.at rfl) (ldB_mk (c1.at rfl) (ldI_mk (c1.at rfl) (ldI_mk (c1.at rfl) (ldI_mk (c1.at rfl) (ldS_mk (c1.at rfl) (ldI_mk (c1.at rfl) (ldI_mk (c1.at rfl) (ldL_mk (c1.at rfl) (ldL_mk (c1.at rfl) (ldL_mk (c1.at rfl) (ldL_mk (c1.at rfl) (ldI_mk (c1.at rfl) (ldI_mk (c1.at rfl) (ldI_mk (c1.at rfl) (ldI_mk (c1.at rfl) ?_)))))))))))))))))))))
  refine basic_c r fun b h2 f2 hb1 => ⟨b, rfl, ifN (fun _ => no _ f2 (by decide)) fun b1 => ?_⟩
  have c2 := c1.fr0 f2
  refine (ldI_mk (c2.at0 rfl) (ldI_mk (c2.at rfl) (ldL_mk (c2.at rfl) (ldL_mk (c2.at rfl) (ldL_mk (c2.at rfl) (ldL_mk (c2.at rfl) (ldB_mk (c2.at rfl) (ldI_mk (c2.at rfl) (ldI_mk (c2.at rfl) (ldI_mk (c2.at rfl) (ldS_mk (c2.at rfl) (ldI_mk (c2.at rfl) (ldI_mk (c2.at rfl) (ldL_mk (c2.at rfl) (ldL_mk (c2.at rfl) (ldL_mk (c2.at rfl) (ldL_mk (c2.at rfl) (ldI_mk (c2.at rfl) (ldI_mk (c2.at rfl) (ldI_mk (c2.at rfl) (ldI_mk (c2.at rfl) ?_)))))))))))))))))))))
  refine typed_c r fun b h3 f3 => ⟨b, rfl, ifN (fun _ => no _ (f2.trans f3) (by decide)) fun b2 => ?_⟩
  have f13 := f2.trans f3
  have c3 := c2.fr0 f3
  refine (ldI_mk (c3.at0 rfl) (ldI_mk (c3.at rfl) (ldL_mk (c3.at rfl) (ldL_mk (c3.at rfl) (ldL_mk (c3.at rfl) (ldL_mk (c3.at rfl) (ldB_mk (c3.at rfl) (ldI_mk (c3.at rfl) (ldI_mk (c3.at rfl) (ldI_mk (c3.at rfl) (ldS_mk (c3.at rfl) (ldI_mk (c3.at rfl) (ldI_mk (c3.at rfl) (ldL_mk (c3.at rfl) (ldL_mk (c3.at rfl) (ldL_mk (c3.at rfl) (ldL_mk (c3.at rfl) (ldI_mk (c3.at rfl) (ldI_mk (c3.at rfl) (ldI_mk (c3.at rfl) (ldI_mk (c3.at rfl) ?_)))))))))))))))))))))
  refine sizes_c r fun b h4 f4 hb3 => ⟨b, rfl, ifN (fun _ => no _ (f13.trans f4) (by decide)) fun b3 => ?_⟩
  have f14 := f13.trans f4
  have c4 := c3.fr0 f4
  have k4 := S_api_Rule.ok_fr _ _ _ f14 k1
  refine ldL_mk (c4.at (j := 2) rfl) (addrNames_c r.Src k4.k2 fun b => ⟨b, rfl, ifN (fun _ => no _ f14 (by decide)) fun _ => ?_⟩)
  refine ldL_mk (c4.at (j := 3) rfl) (addrNames_c r.Dst k4.k3 fun b => ⟨b, rfl, ifN (fun _ => no _ f14 (by decide)) fun _ => ?_⟩)
  refine ldL_mk (c4.at (j := 4) rfl) (portNames_c r.SrcPorts k4.k4 fun b => ⟨b, rfl, ifN (fun _ => no _ f14 (by decide)) fun _ => ?_⟩)
  refine ldL_mk (c4.at (j := 5) rfl) (portNames_c r.DstPorts k4.k5 fun b => ⟨b, rfl, ifN (fun _ => no _ f14 (by decide)) fun _ => ?_⟩)
  refine ldL_mk (c4.at (j := 16) rfl) (flowNames_c r.Flow k4.k16 fun b hb4 => ⟨b, rfl, ifN (fun _ => no _ f14 (by decide)) fun b4 => ?_⟩)
  have hs := hb3 b3
  refine LoopV.go (fun n st h' => ∃ i : Nat, st = (i : Int) ∧ i ≤ r.Transforms.xs.length ∧ n = r.Transforms.xs.length - i ∧ h' = h4 ∧ ∀ x ∈ r.Transforms.xs.take i, 1 ≤ x ∧ x ≤ 6) r.Transforms.xs.length ⟨0, rfl, by omega, rfl, rfl, by simp⟩ ?_
  rintro n - h5 ⟨i, rfl, hi, rfl, rfl, ha⟩ Kn hK
  unfold ref43_Check_l1
  refine ldL_mk (c4.at (j := 13) rfl) (ifD (fun e => ?_) fun e => ?_)
  · have hil : i < r.Transforms.xs.length := by omega
    refine ldL_mk (c4.at (j := 13) rfl) (idx_sl k4.k13 i rfl hil fun ad c _ => ?_)
    rw [Int.toNat_natCast]
    refine ldI_mk (c.at0 rfl) (ifD (fun _ => no _ f14 (by decide)) fun b5 => ldL_mk (c4.at (j := 13) rfl) (idx_sl k4.k13 i rfl hil fun ad c _ => ldI_mk (c.at0 rfl) (ifD (fun _ => no _ f14 (by decide)) fun b6 => ?_)))
    rw [wr (by omega) (by omega)]
    exact hK (r.Transforms.xs.length - (i + 1)) _ _ (by omega) ⟨i + 1, rfl, hil, rfl, rfl, take_all hil ha ⟨by omega, by omega⟩⟩
  have hit : i = r.Transforms.xs.length := by omega
  subst hit
  rw [List.take_length] at ha
  unfold ref43_Check_b2
  refine ldL_mk (c4.at (j := 14) rfl) (contents_c r.Contents k4.k14 fun e h6 f6 hc => ⟨e, rfl, ifNe (fun he => no _ (f14.trans f6) he) fun he => ?_⟩)
  have f16 := f14.trans f6
  have c6 := c4.fr0 f6
  have k6 := S_api_Rule.ok_fr _ _ _ f6 k4
  refine ldL_mk (c6.at (j := 15) rfl) (tests_ok r.Tests k6.k15 fun b h7 f7 ht => ⟨b, rfl, ifN (fun _ => no _ (f16.trans f7) (by decide)) fun bt => ?_⟩)
  have f17 := f16.trans f7
  have c7 := c6.fr0 f7
  have k7 := S_api_Rule.ok_fr _ _ _ f7 k6
  refine (ldI_mk (c7.at0 rfl) (ldI_mk (c7.at rfl) (ldL_mk (c7.at rfl) (ldL_mk (c7.at rfl) (ldL_mk (c7.at rfl) (ldL_mk (c7.at rfl) (ldB_mk (c7.at rfl) (ldI_mk (c7.at rfl) (ldI_mk (c7.at rfl) (ldI_mk (c7.at rfl) (ldS_mk (c7.at rfl) (ldI_mk (c7.at rfl) (ldI_mk (c7.at rfl) (ldL_mk (c7.at rfl) (ldL_mk (c7.at rfl) (ldL_mk (c7.at rfl) (ldL_mk (c7.at rfl) (ldI_mk (c7.at rfl) (ldI_mk (c7.at rfl) (ldI_mk (c7.at rfl) (ldI_mk (c7.at rfl) ?_)))))))))))))))))))))
  refine numbers_c r k7 fun b h8 f8 hn => ⟨b, rfl, ifN (fun _ => no _ (f17.trans f8) (by decide)) fun bn => ?_⟩
  have f18 := f17.trans f8
  have c8 := c7.fr0 f8
  have k8 := S_api_Rule.ok_fr _ _ _ f8 k7
  refine ldL_mk (c8.at (j := 2) rfl) (prefixes_c r.Src k8.k2 fun b h9 f9 => ⟨b, rfl, ifN (fun _ => no _ (f18.trans f9) (by decide)) fun _ => ?_⟩)
  have f19 := f18.trans f9
  have c9 := c8.fr0 f9
  have k9 := S_api_Rule.ok_fr _ _ _ f9 k8
  refine ldL_mk (c9.at (j := 3) rfl) (prefixes_c r.Dst k9.k3 fun b h10 f10 => ⟨b, rfl, ifN (fun _ => no _ (f19.trans f10) (by decide)) fun _ => ?_⟩)
  have f110 := f19.trans f10
  have c10 := c9.fr0 f10
  have k10 := S_api_Rule.ok_fr _ _ _ f10 k9
  refine ldL_mk (c10.at (j := 14) rfl) (fast_c r.Contents k10.k14 (by omega) fun b => ⟨b, rfl, ifN (fun _ => no _ f110 (by decide)) fun _ => ?_⟩)
  refine ldL_mk (c10.at (j := 14) rfl) (ldL_mk (c10.at (j := 15) rfl) (ifE (fun _ => no _ f110 (by decide)) fun _ => hk 0 h10 (f1.trans f110) fun _ => ?_))
  obtain ⟨g1, g2, g3, g4, g5, g6⟩ := hb1 b1
  obtain ⟨s1, s2, s3, s4, s5, s6, s7, s8, s9⟩ := hs
  exact ⟨g1, g2, g3, g4, g5, g6, s1, s2, s3, s4, s5, s6, s7, s8, s9, ha, hc he, ht bt, fun f hf => ⟨hb4 b4 f hf, hn bn f hf⟩⟩
end
end Go.Proofs.Ytjelnknmjhceiaa.Au
