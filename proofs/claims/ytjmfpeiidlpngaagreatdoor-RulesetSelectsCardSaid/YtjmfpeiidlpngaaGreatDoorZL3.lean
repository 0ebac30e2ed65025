/-
  Part 3 of 6 of the proofs: the texts of wip/ in one file, without what this claim does not use.
-/
import Derived.Test.YtjmfpeiidlpngaaGreatDoorZL2
namespace Go.Proofs.YtjmfpeiidlpngaaGreatDoor
set_option linter.unusedSimpArgs false
set_option linter.unusedVariables false
set_option maxRecDepth 20000
open Go IntKind
variable [Gh]
def kJ (u : ByteArray) (w : Int) (b : Option Addr) (c x : Nat) (d : Option Addr) (f g : Nat) (a : Int) (Q : QT) (Kn3 : (Option Addr) × Nat × Nat × Int → aB → Prop) (h : aB) : Prop :=
 bO a c (nn b fun l => ldS h (l.add (a.toNat * 1)) fun m => if (!(m.toList == (⟨#[]⟩ : ByteArray).toList)) = true then (bO a c (nn b fun n => ldS h (n.add (a.toNat * 1)) fun o => if (!(o.toList == (⟨#[46]⟩ : ByteArray).toList)) = true then (bO a c (nn b fun p => ldS h (p.add (a.toNat * 1)) fun q => if (!(q.toList == (⟨#[46, 46]⟩ : ByteArray).toList)) = true then (bO a c (nn b fun r => ldS h (r.add (a.toNat * 1)) fun s => alV h (.cells #[.string s] bW) fun t h3 => cQ Tryz.prog .append #[eJ, eJ] eJ #[false, false] #[.slice d f g, .slice (some t) 1 1] h3 fun v h4 => ∃ i j k, v = .slice i j k ∧ Kn3 (i, j, k, wrap .i64 (a + 1)) h4)) else (Kn3 (d, f, g, wrap .i64 (a + 1)) h))) else (Kn3 (d, f, g, wrap .i64 (a + 1)) h))) else (Kn3 (d, f, g, wrap .i64 (a + 1)) h))
def kG (i : ByteArray) (j : Int) (k : Option Addr) (l m : Nat) (d : Option Addr) (f n : Nat) (b : ByteArray) (a : Int) (Q : QT) (Kn6 : ByteArray × Int → aB → Prop) (h : aB) : Prop :=
 bO a f (nn d fun g => ldS h (g.add (a.toNat * 1)) fun c => ((b.size + c.size : Nat) : Int) ≤ IntKind.max .i64 ∧ Kn6 (b ++ c, wrap .i64 (a + 1)) h)
def gI (c : ByteArray) (d : Int) (a : ByteArray) (Q : QT) (h : aB) : Prop :=
 mC c (some d) none fun b => ((a.size + b.size : Nat) : Int) ≤ IntKind.max .i64 ∧ Q (.string (a ++ b)) h
def sr (b : ByteArray) (c : Int) (g : Option Addr) (d j : Nat) (a : ByteArray) (Q : QT) (h : aB) : Prop :=
 bO (wrap .i64 (((d : Nat) : Int) - 1)) d (nn g fun i => ldS h (i.add (((wrap .i64 (((d : Nat) : Int) - 1))).toNat * 1)) fun f => if (a.toList == (⟨#[]⟩ : ByteArray).toList) = true then (((a.size + (⟨#[47]⟩ : ByteArray).size : Nat) : Int) ≤ IntKind.max .i64 ∧ gI b c (a ++ (⟨#[47]⟩ : ByteArray)) Q h) else (if (f.toList == (⟨#[]⟩ : ByteArray).toList) = true then (((a.size + (⟨#[47]⟩ : ByteArray).size : Nat) : Int) ≤ IntKind.max .i64 ∧ gI b c (a ++ (⟨#[47]⟩ : ByteArray)) Q h) else (if (f.toList == (⟨#[46]⟩ : ByteArray).toList) = true then (((a.size + (⟨#[47]⟩ : ByteArray).size : Nat) : Int) ≤ IntKind.max .i64 ∧ gI b c (a ++ (⟨#[47]⟩ : ByteArray)) Q h) else (if (f.toList == (⟨#[46, 46]⟩ : ByteArray).toList) = true then (((a.size + (⟨#[47]⟩ : ByteArray).size : Nat) : Int) ≤ IntKind.max .i64 ∧ gI b c (a ++ (⟨#[47]⟩ : ByteArray)) Q h) else (gI b c a Q h)))))
def sq (b : ByteArray) (d : Int) (f : Option Addr) (g i : Nat) (k : Option Addr) (j l : Nat) (Q : QT) (a : ByteArray) (c : Int) (h : aB) (Kn6 : ByteArray × Int → aB → Prop) : Prop :=
 if (decide (c < ((j : Nat) : Int))) = true then (if (decide (c > 0)) = true then (((a.size + (⟨#[47]⟩ : ByteArray).size : Nat) : Int) ≤ IntKind.max .i64 ∧ kG b d f g i k j l (a ++ (⟨#[47]⟩ : ByteArray)) c Q Kn6 h) else (jw b (0 : Int) fun m => if (m == 47) = true then (((a.size + (⟨#[47]⟩ : ByteArray).size : Nat) : Int) ≤ IntKind.max .i64 ∧ kG b d f g i k j l (a ++ (⟨#[47]⟩ : ByteArray)) c Q Kn6 h) else (kG b d f g i k j l a c Q Kn6 h))) else (sr b d f g i a Q h)
def sF (a : ByteArray) (b : Int) (c : Option Addr) (d f : Nat) (g : Option Addr) (i j : Nat) (Q : QT) (h : aB) : Prop :=
 aH (fun (s : ByteArray × Int) h Kn => sq a b c d f g i j Q s.1 s.2 h Kn) ((⟨#[]⟩ : ByteArray), 0) h
def sw (f : ByteArray) (g : Int) (d : Option Addr) (a i : Nat) (Q : QT) (j : Option Addr) (b k : Nat) (c : Int) (h : aB) (Kn3 : (Option Addr) × Nat × Nat × Int → aB → Prop) : Prop :=
 if (decide (c < ((a : Nat) : Int))) = true then (bO c a (nn d fun l => ldS h (l.add (c.toNat * 1)) fun m => if (m.toList == (⟨#[46, 46]⟩ : ByteArray).toList) = true then (if (decide (((b : Nat) : Int) > 0)) = true then (fM 1 j b k none (some (wrap .i64 (((b : Nat) : Int) - 1))) none fun n o p => kJ f g d a i n o p c Q Kn3 h) else (kJ f g d a i j b k c Q Kn3 h)) else (kJ f g d a i j b k c Q Kn3 h))) else (sF f g d a i j b k Q h)
def sy (a : ByteArray) (b : Int) (Q : QT) (h : aB) : Prop :=
 mC a none (some b) fun g => aD Tryz.prog nv #[.string g] h fun v h1 => ∃ c d f, v = .slice c d f ∧ alV h1 (.cells #[] bW) fun i h2 => aH (fun (s : (Option Addr) × Nat × Nat × Int) h Kn => sw a b c d f Q s.1 s.2.1 s.2.2.1 s.2.2.2 h Kn) (some i, 0, 0, 0) h2
def sA (b : ByteArray) (Q : QT) (c a : Int) (h : aB) (Kn1 : Int × Int → aB → Prop) : Prop :=
 if (decide (a ≥ 0)) = true then (jw b a fun d => if (d == 63) = true then (Kn1 (a, wrap .i64 (a - 1)) h) else (Kn1 (c, wrap .i64 (a - 1)) h)) else (sy b c Q h)
def yN (a : ByteArray) (Q : QT) (h : aB) : Prop :=
 aH (fun (s : Int × Int) h Kn => sA a Q s.1 s.2 h Kn) (((a.size : Nat) : Int), wrap .i64 (((a.size : Nat) : Int) - 1)) h
set_option maxRecDepth 100000 in
theorem DR (b : _) {Q : QT} {h : aB} (hk : yN b Q h) : aD Tryz.prog su #[.string b] h Q :=
 aS follows Tryz.func117 (Tryz.call117 _) rfl rfl [(16, fun e h => dS (e 0) fun b => dI .i64 (e 3) fun a => sy b a Q h), (34, fun e h => dS (e 0) fun b => dI .i64 (e 3) fun a => dL (e 5) fun g i j => dL (e 6) fun c d f => sF b a g i j c d f Q h), (48, fun e h => dS (e 0) fun b => dI .i64 (e 3) fun a => dL (e 5) fun g i j => dS (e 8) fun k => sr b a g i j k Q h), (54, fun e h => dS (e 0) fun b => dI .i64 (e 3) fun a => dS (e 8) fun k => gI b a k Q h)] [(8, fun e h => dS (e 0) fun b => dI .i64 (e 3) fun a => dI .i64 (e 4) fun n => aH (fun (s : Int × Int) h Kn => sA b Q s.1 s.2 h Kn) (a, n) h), (22, fun e h => dS (e 0) fun b => dI .i64 (e 3) fun a => dL (e 5) fun g i j => dL (e 6) fun c d f => dI .i64 (e 7) fun l => aH (fun (s : (Option Addr) × Nat × Nat × Int) h Kn => sw b a g i j Q s.1 s.2.1 s.2.2.1 s.2.2.2 h Kn) (c, d, f, l) h), (38, fun e h => dS (e 0) fun b => dI .i64 (e 3) fun a => dL (e 5) fun g i j => dL (e 6) fun c d f => dS (e 8) fun k => dI .i64 (e 9) fun m => aH (fun (s : ByteArray × Int) h Kn => sq b a g i j c d f Q s.1 s.2 h Kn) (k, m) h)]
 ⟨fun e h _ hk => by
 have F := Ag.nil (e := e)
 have ⟨b, F, hk⟩ := eS F hk
 have ⟨a, F, hk⟩ := eI F hk
 exact fX F (by as_aux_lemma => kernel_rfl) hk, fun e h _ hk => by
 have F := Ag.nil (e := e)
 have ⟨b, F, hk⟩ := eS F hk
 have ⟨a, F, hk⟩ := eI F hk
 have ⟨g, i, j, F, hk⟩ := eL F hk
 have ⟨c, d, f, F, hk⟩ := eL F hk
 exact fX F (by as_aux_lemma => kernel_rfl) hk, fun e h _ hk => by
 have F := Ag.nil (e := e)
 have ⟨b, F, hk⟩ := eS F hk
 have ⟨a, F, hk⟩ := eI F hk
 have ⟨g, i, j, F, hk⟩ := eL F hk
 have ⟨k, F, hk⟩ := eS F hk
 exact fX F (by as_aux_lemma => kernel_rfl) hk, fun e h _ hk => by
 have F := Ag.nil (e := e)
 have ⟨b, F, hk⟩ := eS F hk
 have ⟨a, F, hk⟩ := eI F hk
 have ⟨k, F, hk⟩ := eS F hk
 exact fX F (by as_aux_lemma => kernel_rfl) hk, trivial⟩
 ⟨⟨by kernel_rfl, fun e h he hk => by
 have F := Ag.nil (e := e)
 have ⟨b, F, hk⟩ := eS F hk
 have ⟨a, F, hk⟩ := eI F hk
 have ⟨n, F, hk⟩ := eI F hk
 exact bT (s0 := (a, n)) follows (fun _ h => by cases h) he F (fun s => [(4, .int .i64 s.2), (3, .int .i64 s.1)]) (by kernel_rfl) (F.take 2) hk (fun Kn1 e h => dI .i64 (e 3) fun a => dI .i64 (e 4) fun n => Kn1 (a, n) h) (fun Kn1 e h hk => by
  have F := Ag.nil (e := e)
  have ⟨a, F, hk⟩ := eI F hk
  have ⟨n, F, hk⟩ := eI F hk
  exact ⟨(a, n), F, hk⟩)
  (fun Kn1 => []) (fun Kn1 => [])
  (fun Kn1 => trivial)
  (fun Kn1 => trivial) (fun e s h Kn1 => by as_aux_lemma => kernel_rfl)⟩, ⟨by kernel_rfl, fun e h he hk => by
 have F := Ag.nil (e := e)
 have ⟨b, F, hk⟩ := eS F hk
 have ⟨a, F, hk⟩ := eI F hk
 have ⟨g, i, j, F, hk⟩ := eL F hk
 have ⟨c, d, f, F, hk⟩ := eL F hk
 have ⟨l, F, hk⟩ := eI F hk
 exact bT (s0 := (c, d, f, l)) follows (fun _ h => by cases h) he F (fun s => [(7, .int .i64 s.2.2.2), (6, .slice s.1 s.2.1 s.2.2.1)]) (by kernel_rfl) (F.take 2) hk (fun Kn3 e h => dL (e 6) fun c d f => dI .i64 (e 7) fun l => Kn3 (c, d, f, l) h) (fun Kn3 e h hk => by
  have F := Ag.nil (e := e)
  have ⟨c, d, f, F, hk⟩ := eL F hk
  have ⟨l, F, hk⟩ := eI F hk
  exact ⟨(c, d, f, l), F, hk⟩)
  (fun Kn3 => [(30, fun e h => dS (e 0) fun b => dI .i64 (e 3) fun a => dL (e 5) fun g i j => dL (e 6) fun c d f => dI .i64 (e 7) fun l => kJ b a g i j c d f l Q Kn3 h)]) (fun Kn3 => [])
  (fun Kn3 => ⟨fun e h _ hk => by
 have F := Ag.nil (e := e)
 have ⟨b, F, hk⟩ := eS F hk
 have ⟨a, F, hk⟩ := eI F hk
 have ⟨g, i, j, F, hk⟩ := eL F hk
 have ⟨c, d, f, F, hk⟩ := eL F hk
 have ⟨l, F, hk⟩ := eI F hk
 exact fX F (by as_aux_lemma => kernel_rfl) hk, trivial⟩)
  (fun Kn3 => trivial) (fun e s h Kn3 => by as_aux_lemma => kernel_rfl)⟩, ⟨by kernel_rfl, fun e h he hk => by
 have F := Ag.nil (e := e)
 have ⟨b, F, hk⟩ := eS F hk
 have ⟨a, F, hk⟩ := eI F hk
 have ⟨g, i, j, F, hk⟩ := eL F hk
 have ⟨c, d, f, F, hk⟩ := eL F hk
 have ⟨k, F, hk⟩ := eS F hk
 have ⟨m, F, hk⟩ := eI F hk
 exact bT (s0 := (k, m)) follows (fun _ h => by cases h) he F (fun s => [(9, .int .i64 s.2), (8, .string s.1)]) (by kernel_rfl) (F.take 2) hk (fun Kn6 e h => dS (e 8) fun k => dI .i64 (e 9) fun m => Kn6 (k, m) h) (fun Kn6 e h hk => by
  have F := Ag.nil (e := e)
  have ⟨k, F, hk⟩ := eS F hk
  have ⟨m, F, hk⟩ := eI F hk
  exact ⟨(k, m), F, hk⟩)
  (fun Kn6 => [(46, fun e h => dS (e 0) fun b => dI .i64 (e 3) fun a => dL (e 5) fun g i j => dL (e 6) fun c d f => dS (e 8) fun k => dI .i64 (e 9) fun m => kG b a g i j c d f k m Q Kn6 h)]) (fun Kn6 => [])
  (fun Kn6 => ⟨fun e h _ hk => by
 have F := Ag.nil (e := e)
 have ⟨b, F, hk⟩ := eS F hk
 have ⟨a, F, hk⟩ := eI F hk
 have ⟨g, i, j, F, hk⟩ := eL F hk
 have ⟨c, d, f, F, hk⟩ := eL F hk
 have ⟨k, F, hk⟩ := eS F hk
 have ⟨m, F, hk⟩ := eI F hk
 exact fX F (by as_aux_lemma => kernel_rfl) hk, trivial⟩)
  (fun Kn6 => trivial) (fun e s h Kn6 => by as_aux_lemma => kernel_rfl)⟩, trivial⟩ (by as_aux_lemma => kernel_rfl) hk
def uv (i : ByteArray) (Q : QT) (b : Option Addr) (c d : Nat) (g a : Int) (h : aB) (Kn1 : (Option Addr) × Nat × Nat × Int × Int → aB → Prop) : Prop :=
 if (decide (a < ((i.size : Nat) : Int))) = true then (jw i a fun n => aD Tryz.prog iH #[.int .u8 n] h fun v h2 => ∃ f, v = .int .i64 f ∧ if (decide (f < 0)) = true then (Kn1 (b, c, d, g, wrap .i64 (a + 1)) h2) else (if (decide (g < 0)) = true then (Kn1 (b, c, d, f, wrap .i64 (a + 1)) h2) else (alV h2 (.cells #[.int .u8 (wrap .u8 (wrap .i64 ((wrap .i64 (g * 16)) + f)))] gK) fun o h3 => cQ Tryz.prog .append #[aL, aL] aL #[false, false] #[.slice b c d, .slice (some o) 1 1] h3 fun v h4 => ∃ j k l, v = .slice j k l ∧ Kn1 (j, k, l, (-1), wrap .i64 (a + 1)) h4))) else (kA Tryz.prog aL bW (.slice b c d) h fun v h5 => ∃ m, v = .string m ∧ Q (.string m) h5)
def zW (a : ByteArray) (Q : QT) (h : aB) : Prop :=
 alV h (.cells #[] gK) fun b h1 => aH (fun (s : (Option Addr) × Nat × Nat × Int × Int) h Kn => uv a Q s.1 s.2.1 s.2.2.1 s.2.2.2.1 s.2.2.2.2 h Kn) (some b, 0, 0, (-1), 0) h1
set_option maxRecDepth 100000 in
theorem E8 (g : _) {Q : QT} {h : aB} (hk : zW g Q h) : aD Tryz.prog uC #[.string g] h Q :=
 aS follows Tryz.func118 (Tryz.call118 _) rfl rfl [] [(10, fun e h => dS (e 0) fun g => dL (e 3) fun a b c => dI .i64 (e 4) fun d => dI .i64 (e 5) fun f => aH (fun (s : (Option Addr) × Nat × Nat × Int × Int) h Kn => uv g Q s.1 s.2.1 s.2.2.1 s.2.2.2.1 s.2.2.2.2 h Kn) (a, b, c, d, f) h)]
 trivial
 ⟨⟨by kernel_rfl, fun e h he hk => by
 have F := Ag.nil (e := e)
 have ⟨g, F, hk⟩ := eS F hk
 have ⟨a, b, c, F, hk⟩ := eL F hk
 have ⟨d, F, hk⟩ := eI F hk
 have ⟨f, F, hk⟩ := eI F hk
 exact bT (s0 := (a, b, c, d, f)) follows (fun _ h => by cases h) he F (fun s => [(5, .int .i64 s.2.2.2.2), (4, .int .i64 s.2.2.2.1), (3, .slice s.1 s.2.1 s.2.2.1)]) (by kernel_rfl) (F.take 3) hk (fun Kn1 e h => dL (e 3) fun a b c => dI .i64 (e 4) fun d => dI .i64 (e 5) fun f => Kn1 (a, b, c, d, f) h) (fun Kn1 e h hk => by
  have F := Ag.nil (e := e)
  have ⟨a, b, c, F, hk⟩ := eL F hk
  have ⟨d, F, hk⟩ := eI F hk
  have ⟨f, F, hk⟩ := eI F hk
  exact ⟨(a, b, c, d, f), F, hk⟩)
  (fun Kn1 => []) (fun Kn1 => [])
  (fun Kn1 => trivial)
  (fun Kn1 => trivial) (fun e s h Kn1 => by as_aux_lemma => kernel_rfl)⟩, trivial⟩ (by as_aux_lemma => kernel_rfl) hk
def uS (b : Bool) (c d : Int) (Q : QT) (h : aB) : Prop :=
 alV h (.cells #[.bool b, .int .u64 c, .int .u64 d] cI) fun a h1 => ldB h1 a fun f => if f = true then (Q (.bool true) h1) else (ldI h1 (a.add 1) .u64 fun g => if (g == 0) = true then (ldI h1 (a.add 2) .u64 fun i => Q (.bool (decide (i ≤ 4294967295))) h1) else (Q (.bool false) h1))
set_option maxRecDepth 100000 in
theorem Al (a b c : _) {Q : QT} {h : aB} (hk : uS a b c Q h) : aD Tryz.prog jX #[.agg #[.bool a, .int .u64 b, .int .u64 c]] h Q :=
 aS follows Tryz.func119 (Tryz.call119 _) rfl rfl [] []
 trivial
 trivial (by as_aux_lemma => kernel_rfl) hk
def fI (b : Option Addr) (c d : Nat) (f : Value) (Q : QT) (h : aB) : Prop :=
 aD Tryz.prog gH #[.slice b c d, f] h fun v h1 => ∃ a, v = .int .i64 a ∧ Q (.bool (decide (a ≥ 0))) h1
set_option maxRecDepth 100000 in
theorem kz (a b c d : _) {Q : QT} {h : aB} (hk : fI a b c d Q h) : aD Tryz.prog cR #[.slice a b c, d] h Q :=
 aS follows Tryz.func120 (Tryz.call120 _) rfl rfl [] []
 trivial
 trivial (by as_aux_lemma => kernel_rfl) hk
def pW (g : Bool) (i j : Int) (k : Bool) (l m : Int) (b : Addr) (Q : QT) (h : aB) : Prop :=
 alV h (.cells #[.bool g, .int .u64 i, .int .u64 j, .bool k, .int .u64 l, .int .u64 m] lM) fun a h1 => ldB h1 a fun n => ldI h1 (a.add 1) .u64 fun o => ldI h1 (a.add 2) .u64 fun p => ldB h1 (a.add 3) fun q => ldI h1 (a.add 4) .u64 fun r => ldI h1 (a.add 5) .u64 fun s => aD Tryz.prog qf #[.agg #[.bool n, .int .u64 o, .int .u64 p, .bool q, .int .u64 r, .int .u64 s]] h1 fun v h2 => ∃ c, v = .bool c ∧ if c = true then (ldB h2 a fun t => ldB h2 b fun u => if (t == u) = true then (ldB h2 a fun w => ldI h2 (a.add 1) .u64 fun x => ldI h2 (a.add 2) .u64 fun y => ldB h2 b fun z => ldI h2 (b.add 1) .u64 fun A => ldI h2 (b.add 2) .u64 fun B => aD Tryz.prog iF #[.agg #[.bool w, .int .u64 x, .int .u64 y], .agg #[.bool z, .int .u64 A, .int .u64 B]] h2 fun v h3 => ∃ d, v = .int .i64 d ∧ if (decide (d ≤ 0)) = true then (ldB h3 b fun C => ldI h3 (b.add 1) .u64 fun D => ldI h3 (b.add 2) .u64 fun G => ldB h3 (a.add 3) fun I => ldI h3 (a.add 4) .u64 fun J => ldI h3 (a.add 5) .u64 fun L => aD Tryz.prog iF #[.agg #[.bool C, .int .u64 D, .int .u64 G], .agg #[.bool I, .int .u64 J, .int .u64 L]] h3 fun v h4 => ∃ f, v = .int .i64 f ∧ Q (.bool (decide (f ≤ 0))) h4) else (Q (.bool false) h3)) else (Q (.bool false) h2)) else (Q (.bool false) h2)
set_option maxRecDepth 100000 in
theorem vI (a b c d f g i : _) {Q : QT} {h : aB} (hk : pW a b c d f g i Q h) : aD Tryz.prog oI #[.agg #[.bool a, .int .u64 b, .int .u64 c, .bool d, .int .u64 f, .int .u64 g], .pointer (some i)] h Q :=
 aS follows Tryz.func121 (Tryz.call121 _) rfl rfl [] []
 trivial
 trivial (by as_aux_lemma => kernel_rfl) hk
def vM (f : Bool) (g i : Int) (j : Bool) (k l : Int) (Q : QT) (h : aB) : Prop :=
 alV h (.cells #[.bool f, .int .u64 g, .int .u64 i, .bool j, .int .u64 k, .int .u64 l] lM) fun a h1 => ldB h1 a fun m => ldI h1 (a.add 1) .u64 fun n => ldI h1 (a.add 2) .u64 fun o => aD Tryz.prog jX #[.agg #[.bool m, .int .u64 n, .int .u64 o]] h1 fun v h2 => ∃ b, v = .bool b ∧ if b = true then (ldB h2 (a.add 3) fun p => ldI h2 (a.add 4) .u64 fun q => ldI h2 (a.add 5) .u64 fun r => aD Tryz.prog jX #[.agg #[.bool p, .int .u64 q, .int .u64 r]] h2 fun v h3 => ∃ c, v = .bool c ∧ if c = true then (ldB h3 a fun s => ldB h3 (a.add 3) fun t => if (s == t) = true then (ldB h3 a fun u => ldI h3 (a.add 1) .u64 fun w => ldI h3 (a.add 2) .u64 fun x => ldB h3 (a.add 3) fun y => ldI h3 (a.add 4) .u64 fun z => ldI h3 (a.add 5) .u64 fun A => aD Tryz.prog iF #[.agg #[.bool u, .int .u64 w, .int .u64 x], .agg #[.bool y, .int .u64 z, .int .u64 A]] h3 fun v h4 => ∃ d, v = .int .i64 d ∧ Q (.bool (decide (d ≤ 0))) h4) else (Q (.bool false) h3)) else (Q (.bool false) h3)) else (Q (.bool false) h2)
set_option maxRecDepth 100000 in
theorem B4 (a b c d f g : _) {Q : QT} {h : aB} (hk : vM a b c d f g Q h) : aD Tryz.prog qf #[.agg #[.bool a, .int .u64 b, .int .u64 c, .bool d, .int .u64 f, .int .u64 g]] h Q :=
 aS follows Tryz.func122 (Tryz.call122 _) rfl rfl [] []
 trivial
 trivial (by as_aux_lemma => kernel_rfl) hk
def sa (c : Bool) (d f : Int) (g : Bool) (i j : Int) (Q : QT) (h : aB) : Prop :=
 alV h (.cells #[.bool c, .int .u64 d, .int .u64 f] cI) fun b h1 => alV h1 (.cells #[.bool g, .int .u64 i, .int .u64 j] cI) fun a h2 => ldB h2 b fun k => ldI h2 (b.add 1) .u64 fun l => ldI h2 (b.add 2) .u64 fun m => ldB h2 a fun n => ldI h2 (a.add 1) .u64 fun o => ldI h2 (a.add 2) .u64 fun p => if ((k == n) && ((l == o) && ((m == p) && true))) = true then (Q (.int .i64 0) h2) else (ldB h2 b fun q => ldB h2 a fun r => if (!(q == r)) = true then (ldB h2 a fun s => if s = true then (Q (.int .i64 (-1)) h2) else (Q (.int .i64 1) h2)) else (ldI h2 (b.add 1) .u64 fun t => ldI h2 (a.add 1) .u64 fun u => if (t != u) = true then (ldI h2 (b.add 1) .u64 fun w => ldI h2 (a.add 1) .u64 fun x => if (decide (w < x)) = true then (Q (.int .i64 (-1)) h2) else (Q (.int .i64 1) h2)) else (ldI h2 (b.add 2) .u64 fun y => ldI h2 (a.add 2) .u64 fun z => if (decide (y < z)) = true then (Q (.int .i64 (-1)) h2) else (Q (.int .i64 1) h2))))
set_option maxRecDepth 100000 in
theorem ye (a b c d f g : _) {Q : QT} {h : aB} (hk : sa a b c d f g Q h) : aD Tryz.prog iF #[.agg #[.bool a, .int .u64 b, .int .u64 c], .agg #[.bool d, .int .u64 f, .int .u64 g]] h Q :=
 aS follows Tryz.func123 (Tryz.call123 _) rfl rfl [] []
 trivial
 trivial (by as_aux_lemma => kernel_rfl) hk
def gF (b : Option Addr) (c d : Nat) (f : Value) (Q : QT) (h : aB) : Prop :=
 aD Tryz.prog gV #[.slice b c d, f] h fun v h1 => ∃ a, v = .int .i64 a ∧ Q (.bool (decide (a ≥ 0))) h1
set_option maxRecDepth 100000 in
theorem lr (a b c d : _) {Q : QT} {h : aB} (hk : gF a b c d Q h) : aD Tryz.prog cT #[.slice a b c, d] h Q :=
 aS follows Tryz.func124 (Tryz.call124 _) rfl rfl [] []
 trivial
 trivial (by as_aux_lemma => kernel_rfl) hk
def oR (c d : Int) (a : Addr) (Q : QT) (h : aB) : Prop :=
 alV h (.cells #[.int .i64 c, .int .i64 d] rH) fun b h1 => ldI h1 b .i64 fun f => ldI h1 a .i64 fun g => if (decide (f ≤ g)) = true then (ldI h1 a .i64 fun i => ldI h1 (b.add 1) .i64 fun j => Q (.bool (decide (i ≤ j))) h1) else (Q (.bool false) h1)
set_option maxRecDepth 100000 in
theorem vh (a b c : _) {Q : QT} {h : aB} (hk : oR a b c Q h) : aD Tryz.prog nN #[.agg #[.int .i64 a, .int .i64 b], .pointer (some c)] h Q :=
 aS follows Tryz.func125 (Tryz.call125 _) rfl rfl [] []
 trivial
 trivial (by as_aux_lemma => kernel_rfl) hk
def np (f : Option Addr) (d R : Nat) (b : Addr) (Q : QT) (a : Int) (h : aB) (Kn1 : Int → aB → Prop) : Prop :=
 if (decide (a < ((d : Nat) : Int))) = true then (ldB h b fun n => ldI h (b.add 1) .u64 fun o => ldI h (b.add 2) .u64 fun p => aD Tryz.prog mz #[.agg #[.bool n, .int .u64 o, .int .u64 p]] h fun v h2 => ∃ j, v = .bool j ∧ if j = true then (bO a d (nn f fun c => ldB h2 (c.add (a.toNat * 6)) fun q => ldI h2 ((c.add (a.toNat * 6)).add 1) .u64 fun r => ldI h2 ((c.add (a.toNat * 6)).add 2) .u64 fun s => ldB h2 ((c.add (a.toNat * 6)).add 3) fun t => ldI h2 ((c.add (a.toNat * 6)).add 4) .u64 fun u => ldI h2 ((c.add (a.toNat * 6)).add 5) .u64 fun w => aD Tryz.prog sx #[.agg #[.bool q, .int .u64 r, .int .u64 s, .bool t, .int .u64 u, .int .u64 w]] h2 fun v h3 => ∃ k, v = .bool k ∧ if k = true then (bO a d (nn f fun x => ldB h3 (x.add (a.toNat * 6)) fun y => ldB h3 b fun z => if (y == z) = true then (ldB h3 b fun A => ldI h3 (b.add 1) .u64 fun B => ldI h3 (b.add 2) .u64 fun C => bO a d (nn f fun g => ldB h3 (g.add (a.toNat * 6)) fun D => ldI h3 ((g.add (a.toNat * 6)).add 1) .u64 fun G => ldI h3 ((g.add (a.toNat * 6)).add 2) .u64 fun I => aD Tryz.prog kB #[.agg #[.bool A, .int .u64 B, .int .u64 C], .agg #[.bool D, .int .u64 G, .int .u64 I]] h3 fun v h4 => ∃ l, v = .bool l ∧ if (!l) = true then (bO a d (nn f fun i => ldB h4 ((i.add (a.toNat * 6)).add 3) fun J => ldI h4 ((i.add (a.toNat * 6)).add 4) .u64 fun L => ldI h4 ((i.add (a.toNat * 6)).add 5) .u64 fun M => ldB h4 b fun N => ldI h4 (b.add 1) .u64 fun O => ldI h4 (b.add 2) .u64 fun P => aD Tryz.prog kB #[.agg #[.bool J, .int .u64 L, .int .u64 M], .agg #[.bool N, .int .u64 O, .int .u64 P]] h4 fun v h5 => ∃ m, v = .bool m ∧ if (!m) = true then (Q (.bool true) h5) else (Kn1 (wrap .i64 (a + 1)) h5))) else (Kn1 (wrap .i64 (a + 1)) h4))) else (Kn1 (wrap .i64 (a + 1)) h3))) else (Kn1 (wrap .i64 (a + 1)) h3))) else (Kn1 (wrap .i64 (a + 1)) h2)) else (Q (.bool false) h)
def tj (a : Option Addr) (b c : Nat) (d : Bool) (f g : Int) (Q : QT) (h : aB) : Prop :=
 alV h (.cells #[.bool d, .int .u64 f, .int .u64 g] cI) fun i h1 => aH (fun (s : Int) h Kn => np a b c i Q s h Kn) 0 h1
set_option maxRecDepth 100000 in
theorem zd (b c d f g i : _) {Q : QT} {h : aB} (hk : tj b c d f g i Q h) : aD Tryz.prog ll #[.slice b c d, .agg #[.bool f, .int .u64 g, .int .u64 i]] h Q :=
 aS follows Tryz.func137 (Tryz.call137 _) rfl rfl [] [(6, fun e h => dL (e 0) fun b c d => dA (e 3) fun j => dI .i64 (e 5) fun a => aH (fun (s : Int) h Kn => np b c d j Q s h Kn) a h)]
 trivial
 ⟨⟨by kernel_rfl, fun e h he hk => by
 have F := Ag.nil (e := e)
 have ⟨b, c, d, F, hk⟩ := eL F hk
 have ⟨j, F, hk⟩ := eA F hk
 have ⟨a, F, hk⟩ := eI F hk
 exact bT (s0 := a) follows (fun _ h => by cases h) he F (fun s => [(5, .int .i64 s)]) (by kernel_rfl) (F.take 1) hk (fun Kn1 e h => dI .i64 (e 5) fun a => Kn1 a h) (fun Kn1 e h hk => by
  have F := Ag.nil (e := e)
  have ⟨a, F, hk⟩ := eI F hk
  exact ⟨a, F, hk⟩)
  (fun Kn1 => []) (fun Kn1 => [])
  (fun Kn1 => trivial)
  (fun Kn1 => trivial) (fun e s h Kn1 => by as_aux_lemma => kernel_rfl)⟩, trivial⟩ (by as_aux_lemma => kernel_rfl) hk
def oj (c : Option Addr) (b k : Nat) (d : Int) (Q : QT) (a : Int) (h : aB) (Kn1 : Int → aB → Prop) : Prop :=
 if (decide (a < ((b : Nat) : Int))) = true then (bO a b (nn c fun f => ldI h (f.add (a.toNat * 2)) .i64 fun g => if (decide (g ≤ d)) = true then (bO a b (nn c fun i => ldI h ((i.add (a.toNat * 2)).add 1) .i64 fun j => if (decide (d ≤ j)) = true then (Q (.bool true) h) else (Kn1 (wrap .i64 (a + 1)) h))) else (Kn1 (wrap .i64 (a + 1)) h))) else (Q (.bool false) h)
def tB (b : Option Addr) (c d : Nat) (a : Int) (Q : QT) (h : aB) : Prop :=
 if (decide (a < 0)) = true then (Q (.bool false) h) else (if (decide (a > 4294967296)) = true then (Q (.bool false) h) else (aH (fun (s : Int) h Kn => oj b c d a Q s h Kn) 0 h))
set_option maxRecDepth 100000 in
theorem yW (b c d f : _) {Q : QT} {h : aB} (hk : tB b c d f Q h) : aD Tryz.prog lj #[.slice b c d, .int .i64 f] h Q :=
 aS follows Tryz.func138 (Tryz.call138 _) rfl rfl [] [(10, fun e h => dL (e 0) fun b c d => dI .i64 (e 1) fun f => dI .i64 (e 5) fun a => aH (fun (s : Int) h Kn => oj b c d f Q s h Kn) a h)]
 trivial
 ⟨⟨by kernel_rfl, fun e h he hk => by
 have F := Ag.nil (e := e)
 have ⟨b, c, d, F, hk⟩ := eL F hk
 have ⟨f, F, hk⟩ := eI F hk
 have ⟨a, F, hk⟩ := eI F hk
 exact bT (s0 := a) follows (fun _ h => by cases h) he F (fun s => [(5, .int .i64 s)]) (by kernel_rfl) (F.take 1) hk (fun Kn1 e h => dI .i64 (e 5) fun a => Kn1 a h) (fun Kn1 e h hk => by
  have F := Ag.nil (e := e)
  have ⟨a, F, hk⟩ := eI F hk
  exact ⟨a, F, hk⟩)
  (fun Kn1 => []) (fun Kn1 => [])
  (fun Kn1 => trivial)
  (fun Kn1 => trivial) (fun e s h Kn1 => by as_aux_lemma => kernel_rfl)⟩, trivial⟩ (by as_aux_lemma => kernel_rfl) hk
def p9 (f : Addr) (Q : QT) (c a : Int) (h : aB) (Kn1 : Int × Int → aB → Prop) : Prop :=
 ldL h (f.add 14) fun R n S => if (decide (a < ((n : Nat) : Int))) = true then (ldL h (f.add 14) fun o p U => bO a p (nn o fun d => ldS h (d.add (a.toNat * 7)) fun q => ldB h ((d.add (a.toNat * 7)).add 1) fun r => ldB h ((d.add (a.toNat * 7)).add 2) fun s => ldB h ((d.add (a.toNat * 7)).add 3) fun t => ldI h ((d.add (a.toNat * 7)).add 4) .i64 fun u => ldI h ((d.add (a.toNat * 7)).add 5) .i64 fun w => ldB h ((d.add (a.toNat * 7)).add 6) fun x => alV h (.cells #[.string (⟨#[]⟩ : ByteArray), .bool false, .bool false, .bool false, .int .i64 0, .int .i64 0, .bool false] ei) fun b h2 => stN h2 b [.string q, .bool r, .bool s, .bool t, .int .i64 u, .int .i64 w, .bool x] 0 fun h3 => ldS h3 b fun y => ldB h3 (b.add 1) fun z => ldB h3 (b.add 2) fun A => ldB h3 (b.add 3) fun B => ldI h3 (b.add 4) .i64 fun C => ldI h3 (b.add 5) .i64 fun D => ldB h3 (b.add 6) fun G => aD Tryz.prog qh #[.agg #[.string y, .bool z, .bool A, .bool B, .int .i64 C, .int .i64 D, .bool G]] h3 fun v h4 => ∃ i, v = .bool i ∧ if (!i) = true then (Kn1 (c, wrap .i64 (a + 1)) h4) else (ldB h4 (b.add 6) fun I => if I = true then (Q (.int .i64 a) h4) else (if (decide (c < 0)) = true then (Kn1 (a, wrap .i64 (a + 1)) h4) else (ldL h4 (f.add 14) fun J L V => bO c L (nn J fun M => ldS h4 (M.add (c.toNat * 7)) fun g => ldS h4 b fun N => aD Tryz.prog jU #[.string N] h4 fun v h5 => ∃ j, v = .int .i64 j ∧ aD Tryz.prog jU #[.string g] h5 fun v h6 => ∃ k, v = .int .i64 k ∧ if (decide (j > k)) = true then (Kn1 (a, wrap .i64 (a + 1)) h6) else (ldS h6 b fun O => aD Tryz.prog jU #[.string O] h6 fun v h7 => ∃ l, v = .int .i64 l ∧ aD Tryz.prog jU #[.string g] h7 fun v h8 => ∃ m, v = .int .i64 m ∧ if (l == m) = true then (ldS h8 b fun P => if (decide (((P.size : Nat) : Int) > ((g.size : Nat) : Int))) = true then (Kn1 (a, wrap .i64 (a + 1)) h8) else (Kn1 (c, wrap .i64 (a + 1)) h8)) else (Kn1 (c, wrap .i64 (a + 1)) h8)))))))) else (Q (.int .i64 c) h)
def wg (a b : Int) (c : Option Addr) (d f : Nat) (g : Option Addr) (i j : Nat) (k : Option Addr) (l m : Nat) (n : Option Addr) (o p : Nat) (q : Bool) (r t u : Int) (w : ByteArray) (x y : Int) (z : Option Addr) (A B : Nat) (C : Option Addr) (D G : Nat) (I : Option Addr) (J L : Nat) (M : Option Addr) (N O : Nat) (P R S U : Int) (Q : QT) (h : aB) : Prop :=
 alV h (.cells #[.int .i64 a, .int .i64 b, .slice c d f, .slice g i j, .slice k l m, .slice n o p, .bool q, .int .i64 r, .int .i64 t, .int .i64 u, .string w, .int .i64 x, .int .i64 y, .slice z A B, .slice C D G, .slice I J L, .slice M N O, .int .i64 P, .int .i64 R, .int .i64 S, .int .i64 U] cK) fun V h1 => aH (fun (s : Int × Int) h Kn => p9 V Q s.1 s.2 h Kn) ((-1), 0) h1
set_option maxRecDepth 100000 in
theorem Bu (c d f g i j k l m n o p q r t u w x y z A B C D G I J L M N O P R S U V W : _) {Q : QT} {h : aB} (hk : wg c d f g i j k l m n o p q r t u w x y z A B C D G I J L M N O P R S U V W Q h) : aD Tryz.prog qg #[.agg #[.int .i64 c, .int .i64 d, .slice f g i, .slice j k l, .slice m n o, .slice p q r, .bool t, .int .i64 u, .int .i64 w, .int .i64 x, .string y, .int .i64 z, .int .i64 A, .slice B C D, .slice G I J, .slice L M N, .slice O P R, .int .i64 S, .int .i64 U, .int .i64 V, .int .i64 W]] h Q :=
 aS follows Tryz.func139 (Tryz.call139 _) rfl rfl [] [(8, fun e h => dA (e 1) fun X => dI .i64 (e 3) fun a => dI .i64 (e 4) fun b => aH (fun (s : Int × Int) h Kn => p9 X Q s.1 s.2 h Kn) (a, b) h)]
 trivial
 ⟨⟨by kernel_rfl, fun e h he hk => by
 have F := Ag.nil (e := e)
 have ⟨X, F, hk⟩ := eA F hk
 have ⟨a, F, hk⟩ := eI F hk
 have ⟨b, F, hk⟩ := eI F hk
 exact bT (s0 := (a, b)) follows (fun _ h => by cases h) he F (fun s => [(4, .int .i64 s.2), (3, .int .i64 s.1)]) (by kernel_rfl) (F.take 2) hk (fun Kn1 e h => dI .i64 (e 3) fun a => dI .i64 (e 4) fun b => Kn1 (a, b) h) (fun Kn1 e h hk => by
  have F := Ag.nil (e := e)
  have ⟨a, F, hk⟩ := eI F hk
  have ⟨b, F, hk⟩ := eI F hk
  exact ⟨(a, b), F, hk⟩)
  (fun Kn1 => []) (fun Kn1 => [])
  (fun Kn1 => trivial)
  (fun Kn1 => trivial) (fun e s h Kn1 => by as_aux_lemma => kernel_rfl)⟩, trivial⟩ (by as_aux_lemma => kernel_rfl) hk
def qW (c : Option Addr) (b f : Nat) (Q : QT) (a : Int) (h : aB) (Kn1 : Int → aB → Prop) : Prop :=
 if (decide (a < ((b : Nat) : Int))) = true then (bO a b (nn c fun g => ldI h (g.add (a.toNat * 1)) .u8 fun i => if (decide (i ≥ 65)) = true then (bO a b (nn c fun j => ldI h (j.add (a.toNat * 1)) .u8 fun k => if (decide (k ≤ 90)) = true then (bO a b (nn c fun l => ldI h (l.add (a.toNat * 1)) .u8 fun m => bO a b (nn c fun n => st1 h (n.add (a.toNat * 1)) (.int .u8 (wrap .u8 (m + 32))) fun h2 => Kn1 (wrap .i64 (a + 1)) h2))) else (Kn1 (wrap .i64 (a + 1)) h))) else (Kn1 (wrap .i64 (a + 1)) h))) else (kA Tryz.prog aL bW (.slice c b f) h fun v h3 => ∃ d, v = .string d ∧ Q (.string d) h3)
def xh (d : ByteArray) (Q : QT) (h : aB) : Prop :=
 kA Tryz.prog bW aL (.string d) h fun v h1 => ∃ a b c, v = .slice a b c ∧ aH (fun (s : Int) h Kn => qW a b c Q s h Kn) 0 h1
set_option maxRecDepth 100000 in
theorem Cd (b : _) {Q : QT} {h : aB} (hk : xh b Q h) : aD Tryz.prog qX #[.string b] h Q :=
 aS follows Tryz.func140 (Tryz.call140 _) rfl rfl [] [(8, fun e h => dL (e 3) fun c d f => dI .i64 (e 4) fun a => aH (fun (s : Int) h Kn => qW c d f Q s h Kn) a h)]
 trivial
 ⟨⟨by kernel_rfl, fun e h he hk => by
 have F := Ag.nil (e := e)
 have ⟨c, d, f, F, hk⟩ := eL F hk
 have ⟨a, F, hk⟩ := eI F hk
 exact bT (s0 := a) follows (fun _ h => by cases h) he F (fun s => [(4, .int .i64 s)]) (by kernel_rfl) (F.take 1) hk (fun Kn1 e h => dI .i64 (e 4) fun a => Kn1 a h) (fun Kn1 e h hk => by
  have F := Ag.nil (e := e)
  have ⟨a, F, hk⟩ := eI F hk
  exact ⟨a, F, hk⟩)
  (fun Kn1 => []) (fun Kn1 => [])
  (fun Kn1 => trivial)
  (fun Kn1 => trivial) (fun e s h Kn1 => by as_aux_lemma => kernel_rfl)⟩, trivial⟩ (by as_aux_lemma => kernel_rfl) hk
def w5 (a : Int) (Q : QT) (h : aB) : Prop :=
 if (decide (a ≥ 65)) = true then (if (decide (a ≤ 90)) = true then (Q (.int .u8 (wrap .u8 (a + 32))) h) else (Q (.int .u8 a) h)) else (Q (.int .u8 a) h)
set_option maxRecDepth 100000 in
theorem Co (a : _) {Q : QT} {h : aB} (hk : w5 a Q h) : aD Tryz.prog oe #[.int .u8 a] h Q :=
 aS follows Tryz.func141 (Tryz.call141 _) rfl rfl [] []
 trivial
 trivial (by as_aux_lemma => kernel_rfl) hk
def jP (c : Option Addr) (d g : Nat) (i : Option Addr) (j n : Nat) (k : Int) (Q : QT) (a : Int) (h : aB) (Kn1 : Int → aB → Prop) : Prop :=
 if (decide (a < k)) = true then (bO a j (nn i fun l => ldI h (l.add (a.toNat * 1)) .u8 fun b => if (decide (65 ≤ b)) = true then (if (decide (b ≤ 90)) = true then (bO a d (nn c fun m => st1 h (m.add (a.toNat * 1)) (.int .u8 (wrap .u8 ((wrap .u8 (b + 97)) - 65))) fun h2 => Kn1 (wrap .i64 (a + 1)) h2)) else (Kn1 (wrap .i64 (a + 1)) h)) else (Kn1 (wrap .i64 (a + 1)) h))) else (kA Tryz.prog aL bW (.slice c d g) h fun v h3 => ∃ f, v = .string f ∧ Q (.string f) h3)
def ns (d : ByteArray) (Q : QT) (h : aB) : Prop :=
 kA Tryz.prog yV aL (.string d) h fun v h1 => ∃ b a c, v = .slice b a c ∧ aH (fun (s : Int) h Kn => jP b a c b a c ((a : Nat) : Int) Q s h Kn) 0 h1
set_option maxRecDepth 100000 in
theorem tU (b : _) {Q : QT} {h : aB} (hk : ns b Q h) : aD Tryz.prog nb #[.string b] h Q :=
 aS follows Tryz.func143 (Tryz.call143 _) rfl rfl [] [(8, fun e h => dL (e 3) fun c d f => dL (e 8) fun g i j => dI .i64 (e 9) fun k => dI .i64 (e 10) fun a => aH (fun (s : Int) h Kn => jP c d f g i j k Q s h Kn) a h)]
 trivial
 ⟨⟨by kernel_rfl, fun e h he hk => by
 have F := Ag.nil (e := e)
 have ⟨c, d, f, F, hk⟩ := eL F hk
 have ⟨g, i, j, F, hk⟩ := eL F hk
 have ⟨k, F, hk⟩ := eI F hk
 have ⟨a, F, hk⟩ := eI F hk
 exact bT (s0 := a) follows (fun _ h => by cases h) he F (fun s => [(10, .int .i64 s)]) (by kernel_rfl) (F.take 1) hk (fun Kn1 e h => dI .i64 (e 10) fun a => Kn1 a h) (fun Kn1 e h hk => by
  have F := Ag.nil (e := e)
  have ⟨a, F, hk⟩ := eI F hk
  exact ⟨a, F, hk⟩)
  (fun Kn1 => []) (fun Kn1 => [])
  (fun Kn1 => trivial)
  (fun Kn1 => trivial) (fun e s h Kn1 => by as_aux_lemma => kernel_rfl)⟩, trivial⟩ (by as_aux_lemma => kernel_rfl) hk
def cN (d : ByteArray) (f : Option Addr) (g i : Nat) (j n k : Int) (Q : QT) (Kn1 : (Option Addr) × Nat × Nat × Int → aB → Prop) (h : aB) : Prop :=
 jw d j fun l => alV h (.cells #[.int .u8 l] gK) fun m h2 => cQ Tryz.prog .append #[aL, aL] aL #[false, false] #[.slice f g i, .slice (some m) 1 1] h2 fun v h3 => ∃ a b c, v = .slice a b c ∧ Kn1 (a, b, c, wrap .i64 (k + 1)) h3
def jW (g : ByteArray) (i : Int) (Q : QT) (b : Option Addr) (c d : Nat) (a : Int) (h : aB) (Kn1 : (Option Addr) × Nat × Nat × Int → aB → Prop) : Prop :=
 if (decide (a < i)) = true then (jw g a fun f => if (f == 9) = true then (if (f == 9) = true then (Kn1 (b, c, d, wrap .i64 (a + 1)) h) else (cN g b c d a i a Q Kn1 h)) else (if (f == 10) = true then (if (f == 10) = true then (Kn1 (b, c, d, wrap .i64 (a + 1)) h) else (cN g b c d a i a Q Kn1 h)) else (if (f == 13) = true then (if (f == 13) = true then (Kn1 (b, c, d, wrap .i64 (a + 1)) h) else (cN g b c d a i a Q Kn1 h)) else (if (f == 32) = true then (Kn1 (b, c, d, wrap .i64 (a + 1)) h) else (cN g b c d a i a Q Kn1 h))))) else (kA Tryz.prog aL bW (.slice b c d) h fun v h1 => ∃ j, v = .string j ∧ Q (.string j) h1)
def nC (a : ByteArray) (Q : QT) (h : aB) : Prop :=
 aH (fun (s : (Option Addr) × Nat × Nat × Int) h Kn => jW a ((a.size : Nat) : Int) Q s.1 s.2.1 s.2.2.1 s.2.2.2 h Kn) (none, 0, 0, 0) h
set_option maxRecDepth 100000 in
theorem uo (f : _) {Q : QT} {h : aB} (hk : nC f Q h) : aD Tryz.prog mX #[.string f] h Q :=
 aS follows Tryz.func144 (Tryz.call144 _) rfl rfl [] [(8, fun e h => dS (e 0) fun f => dI .i64 (e 6) fun g => dL (e 3) fun a b c => dI .i64 (e 7) fun d => aH (fun (s : (Option Addr) × Nat × Nat × Int) h Kn => jW f g Q s.1 s.2.1 s.2.2.1 s.2.2.2 h Kn) (a, b, c, d) h)]
 trivial
 ⟨⟨by kernel_rfl, fun e h he hk => by
 have F := Ag.nil (e := e)
 have ⟨f, F, hk⟩ := eS F hk
 have ⟨g, F, hk⟩ := eI F hk
 have ⟨a, b, c, F, hk⟩ := eL F hk
 have ⟨d, F, hk⟩ := eI F hk
 exact bT (s0 := (a, b, c, d)) follows (fun _ h => by cases h) he F (fun s => [(7, .int .i64 s.2.2.2), (3, .slice s.1 s.2.1 s.2.2.1)]) (by kernel_rfl) (F.take 2) hk (fun Kn1 e h => dL (e 3) fun a b c => dI .i64 (e 7) fun d => Kn1 (a, b, c, d) h) (fun Kn1 e h hk => by
  have F := Ag.nil (e := e)
  have ⟨a, b, c, F, hk⟩ := eL F hk
  have ⟨d, F, hk⟩ := eI F hk
  exact ⟨(a, b, c, d), F, hk⟩)
  (fun Kn1 => [(15, fun e h => dS (e 0) fun f => dL (e 3) fun a b c => dI .i64 (e 4) fun i => dI .i64 (e 6) fun g => dI .i64 (e 7) fun d => cN f a b c i g d Q Kn1 h)]) (fun Kn1 => [])
  (fun Kn1 => ⟨fun e h _ hk => by
 have F := Ag.nil (e := e)
 have ⟨f, F, hk⟩ := eS F hk
 have ⟨a, b, c, F, hk⟩ := eL F hk
 have ⟨i, F, hk⟩ := eI F hk
 have ⟨g, F, hk⟩ := eI F hk
 have ⟨d, F, hk⟩ := eI F hk
 exact fX F (by as_aux_lemma => kernel_rfl) hk, trivial⟩)
  (fun Kn1 => trivial) (fun e s h Kn1 => by as_aux_lemma => kernel_rfl)⟩, trivial⟩ (by as_aux_lemma => kernel_rfl) hk
def cG (f : ByteArray) (g : Option Addr) (i j : Nat) (a : Int) (Q : QT) (Kn1 : (Option Addr) × Nat × Nat × Int → aB → Prop) (h : aB) : Prop :=
 jw f a fun k => alV h (.cells #[.int .u8 k] gK) fun l h6 => cQ Tryz.prog .append #[aL, aL] aL #[false, false] #[.slice g i j, .slice (some l) 1 1] h6 fun v h7 => ∃ b c d, v = .slice b c d ∧ Kn1 (b, c, d, wrap .i64 (a + 1)) h7
def iW (b : ByteArray) (Q : QT) (c : Option Addr) (d f : Nat) (a : Int) (h : aB) (Kn1 : (Option Addr) × Nat × Nat × Int → aB → Prop) : Prop :=
 if (decide (a < ((b.size : Nat) : Int))) = true then (jw b a fun n => if (n == 37) = true then (if (decide ((wrap .i64 (((b.size : Nat) : Int) - a)) > 2)) = true then (jw b (wrap .i64 (a + 1)) fun o => jw b (wrap .i64 (a + 2)) fun p => aD Tryz.prog iE #[.int .u8 o] h fun v h1 => ∃ g, v = .int .i64 g ∧ aD Tryz.prog iE #[.int .u8 p] h1 fun v h2 => ∃ i, v = .int .i64 i ∧ if (decide (g ≥ 0)) = true then (if (decide (i ≥ 0)) = true then (alV h2 (.cells #[.int .u8 (wrap .u8 (wrap .i64 ((wrap .i64 (16 * g)) + i)))] gK) fun q h3 => cQ Tryz.prog .append #[aL, aL] aL #[false, false] #[.slice c d f, .slice (some q) 1 1] h3 fun v h4 => ∃ j k l, v = .slice j k l ∧ Kn1 (j, k, l, wrap .i64 ((wrap .i64 (a + 2)) + 1)) h4) else (cG b c d f a Q Kn1 h2)) else (cG b c d f a Q Kn1 h2)) else (cG b c d f a Q Kn1 h)) else (cG b c d f a Q Kn1 h)) else (kA Tryz.prog aL bW (.slice c d f) h fun v h5 => ∃ m, v = .string m ∧ Q (.string m) h5)
def mD (a : ByteArray) (Q : QT) (h : aB) : Prop :=
 aH (fun (s : (Option Addr) × Nat × Nat × Int) h Kn => iW a Q s.1 s.2.1 s.2.2.1 s.2.2.2 h Kn) (none, 0, 0, 0) h
set_option maxRecDepth 100000 in
theorem sv (f : _) {Q : QT} {h : aB} (hk : mD f Q h) : aD Tryz.prog me #[.string f] h Q :=
 aS follows Tryz.func145 (Tryz.call145 _) rfl rfl [] [(8, fun e h => dS (e 0) fun f => dL (e 3) fun a b c => dI .i64 (e 4) fun d => aH (fun (s : (Option Addr) × Nat × Nat × Int) h Kn => iW f Q s.1 s.2.1 s.2.2.1 s.2.2.2 h Kn) (a, b, c, d) h)]
 trivial
 ⟨⟨by kernel_rfl, fun e h he hk => by
 have F := Ag.nil (e := e)
 have ⟨f, F, hk⟩ := eS F hk
 have ⟨a, b, c, F, hk⟩ := eL F hk
 have ⟨d, F, hk⟩ := eI F hk
 exact bT (s0 := (a, b, c, d)) follows (fun _ h => by cases h) he F (fun s => [(4, .int .i64 s.2.2.2), (3, .slice s.1 s.2.1 s.2.2.1)]) (by kernel_rfl) (F.take 2) hk (fun Kn1 e h => dL (e 3) fun a b c => dI .i64 (e 4) fun d => Kn1 (a, b, c, d) h) (fun Kn1 e h hk => by
  have F := Ag.nil (e := e)
  have ⟨a, b, c, F, hk⟩ := eL F hk
  have ⟨d, F, hk⟩ := eI F hk
  exact ⟨(a, b, c, d), F, hk⟩)
  (fun Kn1 => [(22, fun e h => dS (e 0) fun f => dL (e 3) fun a b c => dI .i64 (e 4) fun d => cG f a b c d Q Kn1 h)]) (fun Kn1 => [])
  (fun Kn1 => ⟨fun e h _ hk => by
 have F := Ag.nil (e := e)
 have ⟨f, F, hk⟩ := eS F hk
 have ⟨a, b, c, F, hk⟩ := eL F hk
 have ⟨d, F, hk⟩ := eI F hk
 exact fX F (by as_aux_lemma => kernel_rfl) hk, trivial⟩)
  (fun Kn1 => trivial) (fun e s h Kn1 => by as_aux_lemma => kernel_rfl)⟩, trivial⟩ (by as_aux_lemma => kernel_rfl) hk
def jx (k : ByteArray) (o : Int) (Q : QT) (c : Option Addr) (d f : Nat) (j a b : Int) (h : aB) (Kn1 : (Option Addr) × Nat × Nat × Int × Int × Int → aB → Prop) : Prop :=
 if (decide (b < o)) = true then (jw k b fun p => if (p == 61) = true then (kA Tryz.prog aL bW (.slice c d f) h fun v h1 => ∃ g, v = .string g ∧ Q (.string g) h1) else (jw k b fun q => aD Tryz.prog jh #[.string (⟨#[65, 66, 67, 68, 69, 70, 71, 72, 73, 74, 75, 76, 77, 78, 79, 80, 81, 82, 83, 84, 85, 86, 87, 88, 89, 90, 97, 98, 99, 100, 101, 102, 103, 104, 105, 106, 107, 108, 109, 110, 111, 112, 113, 114, 115, 116, 117, 118, 119, 120, 121, 122, 48, 49, 50, 51, 52, 53, 54, 55, 56, 57, 43, 47]⟩ : ByteArray), .int .u8 q] h fun v h2 => ∃ i, v = .int .i64 i ∧ if (decide (i < 0)) = true then (Kn1 (c, d, f, j, a, wrap .i64 (b + 1)) h2) else (0 ≤ (6 : Int) ∧ if (decide ((wrap .i64 (a + 6)) ≥ 8)) = true then (0 ≤ (wrap .i64 ((wrap .i64 (a + 6)) - 8)) ∧ alV h2 (.cells #[.int .u8 (wrap .u8 (Int.fdiv (wrap .i64 (BitVec.toNat (BitVec.ofInt (IntKind.bits .i64) (wrap .i64 (j * 2 ^ (min (Int.toNat 6) (IntKind.bits .i64)))) ||| BitVec.ofInt (IntKind.bits .i64) i) : Int)) (2 ^ (min (Int.toNat (wrap .i64 ((wrap .i64 (a + 6)) - 8))) (IntKind.bits .i64)))))] gK) fun r h3 => cQ Tryz.prog .append #[aL, aL] aL #[false, false] #[.slice c d f, .slice (some r) 1 1] h3 fun v h4 => ∃ l m n, v = .slice l m n ∧ 0 ≤ (wrap .i64 ((wrap .i64 (a + 6)) - 8)) ∧ Kn1 (l, m, n, wrap .i64 (BitVec.toNat (BitVec.ofInt (IntKind.bits .i64) (wrap .i64 (BitVec.toNat (BitVec.ofInt (IntKind.bits .i64) (wrap .i64 (j * 2 ^ (min (Int.toNat 6) (IntKind.bits .i64)))) ||| BitVec.ofInt (IntKind.bits .i64) i) : Int)) &&& BitVec.ofInt (IntKind.bits .i64) (wrap .i64 ((wrap .i64 (1 * 2 ^ (min (Int.toNat (wrap .i64 ((wrap .i64 (a + 6)) - 8))) (IntKind.bits .i64)))) - 1))) : Int), wrap .i64 ((wrap .i64 (a + 6)) - 8), wrap .i64 (b + 1)) h4) else (Kn1 (c, d, f, wrap .i64 (BitVec.toNat (BitVec.ofInt (IntKind.bits .i64) (wrap .i64 (j * 2 ^ (min (Int.toNat 6) (IntKind.bits .i64)))) ||| BitVec.ofInt (IntKind.bits .i64) i) : Int), wrap .i64 (a + 6), wrap .i64 (b + 1)) h2)))) else (kA Tryz.prog aL bW (.slice c d f) h fun v h5 => ∃ g, v = .string g ∧ Q (.string g) h5)
def nf (a : ByteArray) (Q : QT) (h : aB) : Prop :=
 aH (fun (s : (Option Addr) × Nat × Nat × Int × Int × Int) h Kn => jx a ((a.size : Nat) : Int) Q s.1 s.2.1 s.2.2.1 s.2.2.2.1 s.2.2.2.2.1 s.2.2.2.2.2 h Kn) (none, 0, 0, 0, 0, 0) h
set_option maxRecDepth 100000 in
theorem sR (i : _) {Q : QT} {h : aB} (hk : nf i Q h) : aD Tryz.prog mo #[.string i] h Q :=
 aS follows Tryz.func146 (Tryz.call146 _) rfl rfl [] [(10, fun e h => dS (e 0) fun i => dI .i64 (e 9) fun j => dL (e 3) fun a b c => dI .i64 (e 4) fun d => dI .i64 (e 5) fun f => dI .i64 (e 10) fun g => aH (fun (s : (Option Addr) × Nat × Nat × Int × Int × Int) h Kn => jx i j Q s.1 s.2.1 s.2.2.1 s.2.2.2.1 s.2.2.2.2.1 s.2.2.2.2.2 h Kn) (a, b, c, d, f, g) h)]
 trivial
 ⟨⟨by kernel_rfl, fun e h he hk => by
 have F := Ag.nil (e := e)
 have ⟨i, F, hk⟩ := eS F hk
 have ⟨j, F, hk⟩ := eI F hk
 have ⟨a, b, c, F, hk⟩ := eL F hk
 have ⟨d, F, hk⟩ := eI F hk
 have ⟨f, F, hk⟩ := eI F hk
 have ⟨g, F, hk⟩ := eI F hk
 exact bT (s0 := (a, b, c, d, f, g)) follows (fun _ h => by cases h) he F (fun s => [(10, .int .i64 s.2.2.2.2.2), (5, .int .i64 s.2.2.2.2.1), (4, .int .i64 s.2.2.2.1), (3, .slice s.1 s.2.1 s.2.2.1)]) (by kernel_rfl) (F.take 4) hk (fun Kn1 e h => dL (e 3) fun a b c => dI .i64 (e 4) fun d => dI .i64 (e 5) fun f => dI .i64 (e 10) fun g => Kn1 (a, b, c, d, f, g) h) (fun Kn1 e h hk => by
  have F := Ag.nil (e := e)
  have ⟨a, b, c, F, hk⟩ := eL F hk
  have ⟨d, F, hk⟩ := eI F hk
  have ⟨f, F, hk⟩ := eI F hk
  have ⟨g, F, hk⟩ := eI F hk
  exact ⟨(a, b, c, d, f, g), F, hk⟩)
  (fun Kn1 => []) (fun Kn1 => [])
  (fun Kn1 => trivial)
  (fun Kn1 => trivial) (fun e s h Kn1 => by as_aux_lemma => kernel_rfl)⟩, trivial⟩ (by as_aux_lemma => kernel_rfl) hk
def iz (p q : ByteArray) (b : Option Addr) (a c : Nat) (r : Option Addr) (s t : Nat) (j : ByteArray) (u : Option Addr) (w x : Nat) (y d : Int) (k : ByteArray) (Q : QT) (Kn2 : (Option Addr) × Nat × Nat × Int → aB → Prop) (h : aB) : Prop :=
 if (k.toList == (⟨#[46, 46]⟩ : ByteArray).toList) = true then (fM 1 b a c none (some (if (0 : Int) > (wrap .i64 (((a : Nat) : Int) - 1)) then (0 : Int) else (wrap .i64 (((a : Nat) : Int) - 1)))) none fun l m n => Kn2 (l, m, n, wrap .i64 (d + 1)) h) else (alV h (.cells #[.string j] bW) fun o h3 => cQ Tryz.prog .append #[eJ, eJ] eJ #[false, false] #[.slice b a c, .slice (some o) 1 1] h3 fun v h4 => ∃ f g i, v = .slice f g i ∧ Kn2 (f, g, i, wrap .i64 (d + 1)) h4)
def eQ (a b : ByteArray) (Q : QT) (h : aB) : Prop :=
 ((b.size + a.size : Nat) : Int) ≤ IntKind.max .i64 ∧ Q (.string (b ++ a)) h
def bD (a b : ByteArray) (Q : QT) (h : aB) : Prop :=
 if (b.toList == (⟨#[]⟩ : ByteArray).toList) = true then (eQ a (⟨#[47]⟩ : ByteArray) Q h) else (eQ a b Q h)
def eX (c : ByteArray) (i : Option Addr) (g j : Nat) (k : Option Addr) (d m : Nat) (b : ByteArray) (Q : QT) (h : aB) : Prop :=
 aD Tryz.prog mH #[.slice i g j, .string (⟨#[47]⟩ : ByteArray)] h fun v h6 => ∃ a, v = .string a ∧ ((b.size + a.size : Nat) : Int) ≤ IntKind.max .i64 ∧ bO (wrap .i64 (((d : Nat) : Int) - 1)) d (nn k fun l => ldS h6 (l.add (((wrap .i64 (((d : Nat) : Int) - 1))).toNat * 1)) fun f => if (decide (((g : Nat) : Int) > 0)) = true then (if (f.toList == (⟨#[]⟩ : ByteArray).toList) = true then ((((b ++ a).size + (⟨#[47]⟩ : ByteArray).size : Nat) : Int) ≤ IntKind.max .i64 ∧ bD c ((b ++ a) ++ (⟨#[47]⟩ : ByteArray)) Q h6) else (if (f.toList == (⟨#[46]⟩ : ByteArray).toList) = true then ((((b ++ a).size + (⟨#[47]⟩ : ByteArray).size : Nat) : Int) ≤ IntKind.max .i64 ∧ bD c ((b ++ a) ++ (⟨#[47]⟩ : ByteArray)) Q h6) else (if (f.toList == (⟨#[46, 46]⟩ : ByteArray).toList) = true then ((((b ++ a).size + (⟨#[47]⟩ : ByteArray).size : Nat) : Int) ≤ IntKind.max .i64 ∧ bD c ((b ++ a) ++ (⟨#[47]⟩ : ByteArray)) Q h6) else (bD c (b ++ a) Q h6)))) else (bD c (b ++ a) Q h6))
def ko (k a : ByteArray) (b : Option Addr) (c d : Nat) (f : Option Addr) (g i : Nat) (Q : QT) (h : aB) : Prop :=
 aD Tryz.prog lJ #[.string k, .string (⟨#[47]⟩ : ByteArray)] h fun v h5 => ∃ j, v = .bool j ∧ if j = true then (eX a b c d f g i (⟨#[47]⟩ : ByteArray) Q h5) else (eX a b c d f g i (⟨#[]⟩ : ByteArray) Q h5)
def j9 (g i : ByteArray) (j : Option Addr) (k l : Nat) (m : Option Addr) (n p : Nat) (o : Int) (Q : QT) (c : Option Addr) (d f : Nat) (a : Int) (h : aB) (Kn2 : (Option Addr) × Nat × Nat × Int → aB → Prop) : Prop :=
 if (decide (a < o)) = true then (bO a n (nn m fun q => ldS h (q.add (a.toNat * 1)) fun b => if (b.toList == (⟨#[]⟩ : ByteArray).toList) = true then (if (b.toList == (⟨#[]⟩ : ByteArray).toList) = true then (Kn2 (c, d, f, wrap .i64 (a + 1)) h) else (iz g i c d f j k l b m n p o a b Q Kn2 h)) else (if (b.toList == (⟨#[46]⟩ : ByteArray).toList) = true then (Kn2 (c, d, f, wrap .i64 (a + 1)) h) else (iz g i c d f j k l b m n p o a b Q Kn2 h)))) else (ko g i c d f j k l Q h)
def fA (d f : ByteArray) (Q : QT) (h : aB) : Prop :=
 aD Tryz.prog oZ #[.string d, .string (⟨#[47]⟩ : ByteArray)] h fun v h2 => ∃ b a c, v = .slice b a c ∧ aH (fun (s : (Option Addr) × Nat × Nat × Int) h Kn => j9 d f b a c b a c ((a : Nat) : Int) Q s.1 s.2.1 s.2.2.1 s.2.2.2 h Kn) (none, 0, 0, 0) h2
def oL (a : ByteArray) (Q : QT) (h : aB) : Prop :=
 aD Tryz.prog jh #[.string a, .int .u8 63] h fun v h1 => ∃ b, v = .int .i64 b ∧ if (decide (b ≥ 0)) = true then (mC a none (some b) fun c => mC a (some b) none fun d => fA c d Q h1) else (fA a (⟨#[]⟩ : ByteArray) Q h1)
set_option maxRecDepth 100000 in
theorem vk (q : _) {Q : QT} {h : aB} (hk : oL q Q h) : aD Tryz.prog nM #[.string q] h Q :=
 aS follows Tryz.func147 (Tryz.call147 _) rfl rfl [(12, fun e h => dS (e 3) fun f => dS (e 4) fun a => fA f a Q h), (36, fun e h => dS (e 3) fun f => dS (e 4) fun a => dL (e 6) fun b c d => dL (e 7) fun g i j => ko f a b c d g i j Q h), (42, fun e h => dS (e 4) fun a => dL (e 6) fun b c d => dL (e 7) fun g i j => dS (e 10) fun l => eX a b c d g i j l Q h), (50, fun e h => dS (e 4) fun a => dS (e 10) fun l => bD a l Q h), (54, fun e h => dS (e 4) fun a => dS (e 10) fun l => eQ a l Q h)] [(18, fun e h => dS (e 3) fun f => dS (e 4) fun a => dL (e 7) fun g i j => dL (e 25) fun m n o => dI .i64 (e 26) fun p => dL (e 6) fun b c d => dI .i64 (e 27) fun k => aH (fun (s : (Option Addr) × Nat × Nat × Int) h Kn => j9 f a g i j m n o p Q s.1 s.2.1 s.2.2.1 s.2.2.2 h Kn) (b, c, d, k) h)]
 ⟨fun e h _ hk => by
 have F := Ag.nil (e := e)
 have ⟨f, F, hk⟩ := eS F hk
 have ⟨a, F, hk⟩ := eS F hk
 exact fX F (by as_aux_lemma => kernel_rfl) hk, fun e h _ hk => by
 have F := Ag.nil (e := e)
 have ⟨f, F, hk⟩ := eS F hk
 have ⟨a, F, hk⟩ := eS F hk
 have ⟨b, c, d, F, hk⟩ := eL F hk
 have ⟨g, i, j, F, hk⟩ := eL F hk
 exact fX F (by as_aux_lemma => kernel_rfl) hk, fun e h _ hk => by
 have F := Ag.nil (e := e)
 have ⟨a, F, hk⟩ := eS F hk
 have ⟨b, c, d, F, hk⟩ := eL F hk
 have ⟨g, i, j, F, hk⟩ := eL F hk
 have ⟨l, F, hk⟩ := eS F hk
 exact fX F (by as_aux_lemma => kernel_rfl) hk, fun e h _ hk => by
 have F := Ag.nil (e := e)
 have ⟨a, F, hk⟩ := eS F hk
 have ⟨l, F, hk⟩ := eS F hk
 exact fX F (by as_aux_lemma => kernel_rfl) hk, fun e h _ hk => by
 have F := Ag.nil (e := e)
 have ⟨a, F, hk⟩ := eS F hk
 have ⟨l, F, hk⟩ := eS F hk
 exact fX F (by as_aux_lemma => kernel_rfl) hk, trivial⟩
 ⟨⟨by kernel_rfl, fun e h he hk => by
 have F := Ag.nil (e := e)
 have ⟨f, F, hk⟩ := eS F hk
 have ⟨a, F, hk⟩ := eS F hk
 have ⟨g, i, j, F, hk⟩ := eL F hk
 have ⟨m, n, o, F, hk⟩ := eL F hk
 have ⟨p, F, hk⟩ := eI F hk
 have ⟨b, c, d, F, hk⟩ := eL F hk
 have ⟨k, F, hk⟩ := eI F hk
 exact bT (s0 := (b, c, d, k)) follows (fun _ h => by cases h) he F (fun s => [(27, .int .i64 s.2.2.2), (6, .slice s.1 s.2.1 s.2.2.1)]) (by kernel_rfl) (F.take 2) hk (fun Kn2 e h => dL (e 6) fun b c d => dI .i64 (e 27) fun k => Kn2 (b, c, d, k) h) (fun Kn2 e h hk => by
  have F := Ag.nil (e := e)
  have ⟨b, c, d, F, hk⟩ := eL F hk
  have ⟨k, F, hk⟩ := eI F hk
  exact ⟨(b, c, d, k), F, hk⟩)
  (fun Kn2 => [(31, fun e h => dS (e 3) fun f => dS (e 4) fun a => dL (e 6) fun b c d => dL (e 7) fun g i j => dS (e 9) fun r => dL (e 25) fun m n o => dI .i64 (e 26) fun p => dI .i64 (e 27) fun k => dS (e 31) fun t => iz f a b c d g i j r m n o p k t Q Kn2 h)]) (fun Kn2 => [])
  (fun Kn2 => ⟨fun e h _ hk => by
 have F := Ag.nil (e := e)
 have ⟨f, F, hk⟩ := eS F hk
 have ⟨a, F, hk⟩ := eS F hk
 have ⟨b, c, d, F, hk⟩ := eL F hk
 have ⟨g, i, j, F, hk⟩ := eL F hk
 have ⟨r, F, hk⟩ := eS F hk
 have ⟨m, n, o, F, hk⟩ := eL F hk
 have ⟨p, F, hk⟩ := eI F hk
 have ⟨k, F, hk⟩ := eI F hk
 have ⟨t, F, hk⟩ := eS F hk
 exact fX F (by as_aux_lemma => kernel_rfl) hk, trivial⟩)
  (fun Kn2 => trivial) (fun e s h Kn2 => by as_aux_lemma => kernel_rfl)⟩, trivial⟩ (by as_aux_lemma => kernel_rfl) hk
def kP (m : ByteArray) (n : Int) (Q : QT) (b : Option Addr) (c d : Nat) (g a : Int) (h : aB) (Kn1 : (Option Addr) × Nat × Nat × Int × Int → aB → Prop) : Prop :=
 if (decide (a < n)) = true then (jw m a fun o => aD Tryz.prog iE #[.int .u8 o] h fun v h1 => ∃ f, v = .int .i64 f ∧ if (decide (f < 0)) = true then (Kn1 (b, c, d, g, wrap .i64 (a + 1)) h1) else (if (decide (g < 0)) = true then (Kn1 (b, c, d, f, wrap .i64 (a + 1)) h1) else (alV h1 (.cells #[.int .u8 (wrap .u8 (wrap .i64 ((wrap .i64 (16 * g)) + f)))] gK) fun p h2 => cQ Tryz.prog .append #[aL, aL] aL #[false, false] #[.slice b c d, .slice (some p) 1 1] h2 fun v h3 => ∃ i j k, v = .slice i j k ∧ Kn1 (i, j, k, (-1), wrap .i64 (a + 1)) h3))) else (kA Tryz.prog aL bW (.slice b c d) h fun v h4 => ∃ l, v = .string l ∧ Q (.string l) h4)
def pM (a : ByteArray) (Q : QT) (h : aB) : Prop :=
 aH (fun (s : (Option Addr) × Nat × Nat × Int × Int) h Kn => kP a ((a.size : Nat) : Int) Q s.1 s.2.1 s.2.2.1 s.2.2.2.1 s.2.2.2.2 h Kn) (none, 0, 0, (-1), 0) h
set_option maxRecDepth 100000 in
theorem vT (g : _) {Q : QT} {h : aB} (hk : pM g Q h) : aD Tryz.prog oK #[.string g] h Q :=
 aS follows Tryz.func148 (Tryz.call148 _) rfl rfl [] [(10, fun e h => dS (e 0) fun g => dI .i64 (e 8) fun i => dL (e 3) fun a b c => dI .i64 (e 4) fun d => dI .i64 (e 9) fun f => aH (fun (s : (Option Addr) × Nat × Nat × Int × Int) h Kn => kP g i Q s.1 s.2.1 s.2.2.1 s.2.2.2.1 s.2.2.2.2 h Kn) (a, b, c, d, f) h)]
 trivial
 ⟨⟨by kernel_rfl, fun e h he hk => by
 have F := Ag.nil (e := e)
 have ⟨g, F, hk⟩ := eS F hk
 have ⟨i, F, hk⟩ := eI F hk
 have ⟨a, b, c, F, hk⟩ := eL F hk
 have ⟨d, F, hk⟩ := eI F hk
 have ⟨f, F, hk⟩ := eI F hk
 exact bT (s0 := (a, b, c, d, f)) follows (fun _ h => by cases h) he F (fun s => [(9, .int .i64 s.2.2.2.2), (4, .int .i64 s.2.2.2.1), (3, .slice s.1 s.2.1 s.2.2.1)]) (by kernel_rfl) (F.take 3) hk (fun Kn1 e h => dL (e 3) fun a b c => dI .i64 (e 4) fun d => dI .i64 (e 9) fun f => Kn1 (a, b, c, d, f) h) (fun Kn1 e h hk => by
  have F := Ag.nil (e := e)
  have ⟨a, b, c, F, hk⟩ := eL F hk
  have ⟨d, F, hk⟩ := eI F hk
  have ⟨f, F, hk⟩ := eI F hk
  exact ⟨(a, b, c, d, f), F, hk⟩)
  (fun Kn1 => []) (fun Kn1 => [])
  (fun Kn1 => trivial)
  (fun Kn1 => trivial) (fun e s h Kn1 => by as_aux_lemma => kernel_rfl)⟩, trivial⟩ (by as_aux_lemma => kernel_rfl) hk
def oN (a : ByteArray) (Q : QT) (h : aB) : Prop :=
 Q (.string a) h
set_option maxRecDepth 100000 in
theorem vb (a : _) {Q : QT} {h : aB} (hk : oN a Q h) : aD Tryz.prog oq #[.string a] h Q :=
 aS follows Tryz.func149 (Tryz.call149 _) rfl rfl [] []
 trivial
 trivial (by as_aux_lemma => kernel_rfl) hk
def vn (a : Int) (Q : QT) (h : aB) : Prop :=
 if (decide (a ≥ 97)) = true then (if (decide (a ≤ 122)) = true then (Q (.bool true) h) else (if (decide (a ≥ 65)) = true then (Q (.bool (decide (a ≤ 90))) h) else (Q (.bool false) h))) else (if (decide (a ≥ 65)) = true then (Q (.bool (decide (a ≤ 90))) h) else (Q (.bool false) h))
set_option maxRecDepth 100000 in
theorem BT (a : _) {Q : QT} {h : aB} (hk : vn a Q h) : aD Tryz.prog mF #[.int .u8 a] h Q :=
 aS follows Tryz.func150 (Tryz.call150 _) rfl rfl [] []
 trivial
 trivial (by as_aux_lemma => kernel_rfl) hk
def vB (a : Int) (Q : QT) (h : aB) : Prop :=
 aD Tryz.prog mF #[.int .u8 a] h fun v h1 => ∃ b, v = .bool b ∧ if b = true then (Q (.bool true) h1) else (aD Tryz.prog rC #[.int .u8 a] h1 fun v h2 => ∃ c, v = .bool c ∧ if c = true then (Q (.bool true) h2) else (Q (.bool (a == 95)) h2))
set_option maxRecDepth 100000 in
theorem AU (a : _) {Q : QT} {h : aB} (hk : vB a Q h) : aD Tryz.prog qi #[.int .u8 a] h Q :=
 aS follows Tryz.func151 (Tryz.call151 _) rfl rfl [] []
 trivial
 trivial (by as_aux_lemma => kernel_rfl) hk
def x5 (b : Bool) (c : ByteArray) (d f : Int) (Q : QT) (h : aB) : Prop :=
 alV h (.cells #[.bool b, .string c, .int .i64 d, .int .i64 f] nj) fun a h1 => ldS h1 (a.add 1) fun g => if (!(g.toList == (⟨#[]⟩ : ByteArray).toList)) = true then (Q (.bool true) h1) else (ldI h1 (a.add 2) .i64 fun i => if (decide (i ≥ 0)) = true then (ldI h1 (a.add 2) .i64 fun j => ldI h1 (a.add 3) .i64 fun k => if (decide (j ≤ k)) = true then (ldI h1 (a.add 3) .i64 fun l => Q (.bool (decide (l ≤ 65535))) h1) else (Q (.bool false) h1)) else (Q (.bool false) h1))
set_option maxRecDepth 100000 in
theorem D4 (a b c d : _) {Q : QT} {h : aB} (hk : x5 a b c d Q h) : aD Tryz.prog sk #[.agg #[.bool a, .string b, .int .i64 c, .int .i64 d]] h Q :=
 aS follows Tryz.func152 (Tryz.call152 _) rfl rfl [] []
 trivial
 trivial (by as_aux_lemma => kernel_rfl) hk
def xq (b : Bool) (c d : Int) (Q : QT) (h : aB) : Prop :=
 alV h (.cells #[.bool b, .int .u64 c, .int .u64 d] cI) fun a h1 => ldB h1 a fun f => if f = true then (Q (.bool true) h1) else (ldI h1 (a.add 1) .u64 fun g => if (g == 0) = true then (ldI h1 (a.add 2) .u64 fun i => Q (.bool (decide (i < 4294967296))) h1) else (Q (.bool false) h1))
set_option maxRecDepth 100000 in
theorem Cj (a b c : _) {Q : QT} {h : aB} (hk : xq a b c Q h) : aD Tryz.prog qT #[.agg #[.bool a, .int .u64 b, .int .u64 c]] h Q :=
 aS follows Tryz.func153 (Tryz.call153 _) rfl rfl [] []
 trivial
 trivial (by as_aux_lemma => kernel_rfl) hk
def xm (a : Bool) (b c : Int) (Q : QT) (h : aB) : Prop :=
 alV h (.cells #[.bool a, .int .u64 b, .int .u64 c] cI) fun d h1 => ldB h1 d fun f => if f = true then (Q (.int .i64 128) h1) else (Q (.int .i64 32) h1)
set_option maxRecDepth 100000 in
theorem Ct (a b c : _) {Q : QT} {h : aB} (hk : xm a b c Q h) : aD Tryz.prog om #[.agg #[.bool a, .int .u64 b, .int .u64 c]] h Q :=
 aS follows Tryz.func154 (Tryz.call154 _) rfl rfl [] []
 trivial
 trivial (by as_aux_lemma => kernel_rfl) hk
def sP (b a : Addr) (Q : QT) (h : aB) : Prop :=
 ldB h b fun c => ldI h (b.add 1) .u64 fun d => ldI h (b.add 2) .u64 fun f => stN h a [.bool c, .int .u64 d, .int .u64 f] 0 fun h8 => ldB h8 a fun g => ldI h8 (a.add 1) .u64 fun i => ldI h8 (a.add 2) .u64 fun j => Q (.agg #[.bool g, .int .u64 i, .int .u64 j]) h8
def sD (f : Bool) (a g : Addr) (Q : QT) (b : Int) (h : aB) (Kn1 : Int → aB → Prop) : Prop :=
 ldB h a fun i => ldI h (a.add 1) .u64 fun j => ldI h (a.add 2) .u64 fun k => aD Tryz.prog om #[.agg #[.bool i, .int .u64 j, .int .u64 k]] h fun v h3 => ∃ c, v = .int .i64 c ∧ if (decide (b < c)) = true then (ldB h3 a fun l => ldI h3 (a.add 1) .u64 fun m => ldI h3 (a.add 2) .u64 fun n => aD Tryz.prog ui #[.agg #[.bool l, .int .u64 m, .int .u64 n], .int .i64 b] h3 fun v h4 => ∃ d, v = .bool d ∧ if (d == f) = true then (Kn1 (wrap .i64 (b + 1)) h4) else (ldB h4 a fun o => if (!o) = true then (ldI h4 (a.add 2) .u64 fun p => 0 ≤ (wrap .u64 (wrap .i64 (31 - b))) ∧ st1 h4 (a.add 2) (.int .u64 (wrap .u64 (BitVec.toNat (BitVec.ofInt (IntKind.bits .u64) p ^^^ BitVec.ofInt (IntKind.bits .u64) (wrap .u64 (1 * 2 ^ (min (Int.toNat (wrap .u64 (wrap .i64 (31 - b)))) (IntKind.bits .u64))))) : Int))) fun h5 => Kn1 (wrap .i64 (b + 1)) h5) else (if (decide (b < 64)) = true then (ldI h4 (a.add 1) .u64 fun q => 0 ≤ (wrap .u64 (wrap .i64 (63 - b))) ∧ st1 h4 (a.add 1) (.int .u64 (wrap .u64 (BitVec.toNat (BitVec.ofInt (IntKind.bits .u64) q ^^^ BitVec.ofInt (IntKind.bits .u64) (wrap .u64 (1 * 2 ^ (min (Int.toNat (wrap .u64 (wrap .i64 (63 - b)))) (IntKind.bits .u64))))) : Int))) fun h6 => Kn1 (wrap .i64 (b + 1)) h6) else (ldI h4 (a.add 2) .u64 fun r => 0 ≤ (wrap .u64 (wrap .i64 (127 - b))) ∧ st1 h4 (a.add 2) (.int .u64 (wrap .u64 (BitVec.toNat (BitVec.ofInt (IntKind.bits .u64) r ^^^ BitVec.ofInt (IntKind.bits .u64) (wrap .u64 (1 * 2 ^ (min (Int.toNat (wrap .u64 (wrap .i64 (127 - b)))) (IntKind.bits .u64))))) : Int))) fun h7 => Kn1 (wrap .i64 (b + 1)) h7)))) else (sP a g Q h3)
def x9 (a : Bool) (b c d : Int) (f : Bool) (Q : QT) (h : aB) : Prop :=
 alV h (.cells #[.bool a, .int .u64 b, .int .u64 c] cI) fun g h1 => alV h1 (.cells #[.bool false, .int .u64 0, .int .u64 0] cI) fun i h2 => aH (fun (s : Int) h Kn => sD f g i Q s h Kn) d h2
set_option maxRecDepth 100000 in
theorem D0 (f g i j b : _) {Q : QT} {h : aB} (hk : x9 f g i j b Q h) : aD Tryz.prog sL #[.agg #[.bool f, .int .u64 g, .int .u64 i], .int .i64 j, .bool b] h Q :=
 aS follows Tryz.func155 (Tryz.call155 _) rfl rfl [(22, fun e h => dA (e 3) fun c => dA (e 6) fun d => sP c d Q h)] [(6, fun e h => dB (e 2) fun b => dA (e 3) fun c => dA (e 6) fun d => dI .i64 (e 7) fun a => aH (fun (s : Int) h Kn => sD b c d Q s h Kn) a h)]
 ⟨fun e h _ hk => by
 have F := Ag.nil (e := e)
 have ⟨c, F, hk⟩ := eA F hk
 have ⟨d, F, hk⟩ := eA F hk
 exact fX F (by as_aux_lemma => kernel_rfl) hk, trivial⟩
 ⟨⟨by kernel_rfl, fun e h he hk => by
 have F := Ag.nil (e := e)
 have ⟨b, F, hk⟩ := eB F hk
 have ⟨c, F, hk⟩ := eA F hk
 have ⟨d, F, hk⟩ := eA F hk
 have ⟨a, F, hk⟩ := eI F hk
 exact bT (s0 := a) follows (fun _ h => by cases h) he F (fun s => [(7, .int .i64 s)]) (by kernel_rfl) (F.take 1) hk (fun Kn1 e h => dI .i64 (e 7) fun a => Kn1 a h) (fun Kn1 e h hk => by
  have F := Ag.nil (e := e)
  have ⟨a, F, hk⟩ := eI F hk
  exact ⟨a, F, hk⟩)
  (fun Kn1 => []) (fun Kn1 => [])
  (fun Kn1 => trivial)
  (fun Kn1 => trivial) (fun e s h Kn1 => by as_aux_lemma => kernel_rfl)⟩, trivial⟩ (by as_aux_lemma => kernel_rfl) hk
def gT (d : ByteArray) (i : Addr) (a f j b : Int) (Q : QT) (Kn1 : Int × Int → aB → Prop) (h : aB) : Prop :=
 jw d f fun g => aD Tryz.prog kS #[.int .u8 g] h fun v h3 => ∃ c, v = .bool c ∧ if c = true then (Kn1 (wrap .i64 (a - 8), wrap .i64 (b + 1)) h3) else (Kn1 (a, wrap .i64 (b + 1)) h3)
def lE (a : Int) (Q : QT) (h : aB) : Prop :=
 Q (.int .i64 (if (1 : Int) > a then (1 : Int) else a)) h
def lH (b : ByteArray) (c : Addr) (d : Int) (Q : QT) (f a : Int) (h : aB) (Kn1 : Int × Int → aB → Prop) : Prop :=
 if (decide (a < d)) = true then (jw b a fun g => bO g 256 (ldB h (c.add (g.toNat * 1)) fun j => if (!j) = true then (jw b a fun i => bO i 256 (st1 h (c.add (i.toNat * 1)) (.bool true) fun h2 => gT b c (wrap .i64 (f + 16)) a d a Q Kn1 h2)) else (gT b c f a d a Q Kn1 h))) else (lE f Q h)
def qw (a : ByteArray) (Q : QT) (h : aB) : Prop :=
 if (a.toList == (⟨#[]⟩ : ByteArray).toList) = true then (Q (.int .i64 0) h) else (alV h (.cells #[.bool false, .bool false, .bool false, .bool false, .bool false, .bool false, .bool false, .bool false, .bool false, .bool false, .bool false, .bool false, .bool false, .bool false, .bool false, .bool false, .bool false, .bool false, .bool false, .bool false, .bool false, .bool false, .bool false, .bool false, .bool false, .bool false, .bool false, .bool false, .bool false, .bool false, .bool false, .bool false, .bool false, .bool false, .bool false, .bool false, .bool false, .bool false, .bool false, .bool false, .bool false, .bool false, .bool false, .bool false, .bool false, .bool false, .bool false, .bool false, .bool false, .bool false, .bool false, .bool false, .bool false, .bool false, .bool false, .bool false, .bool false, .bool false, .bool false, .bool false, .bool false, .bool false, .bool false, .bool false, .bool false, .bool false, .bool false, .bool false, .bool false, .bool false, .bool false, .bool false, .bool false, .bool false, .bool false, .bool false, .bool false, .bool false, .bool false, .bool false, .bool false, .bool false, .bool false, .bool false, .bool false, .bool false, .bool false, .bool false, .bool false, .bool false, .bool false, .bool false, .bool false, .bool false, .bool false, .bool false, .bool false, .bool false, .bool false, .bool false, .bool false, .bool false, .bool false, .bool false, .bool false, .bool false, .bool false, .bool false, .bool false, .bool false, .bool false, .bool false, .bool false, .bool false, .bool false, .bool false, .bool false, .bool false, .bool false, .bool false, .bool false, .bool false, .bool false, .bool false, .bool false, .bool false, .bool false, .bool false, .bool false, .bool false, .bool false, .bool false, .bool false, .bool false, .bool false, .bool false, .bool false, .bool false, .bool false, .bool false, .bool false, .bool false, .bool false, .bool false, .bool false, .bool false, .bool false, .bool false, .bool false, .bool false, .bool false, .bool false, .bool false, .bool false, .bool false, .bool false, .bool false, .bool false, .bool false, .bool false, .bool false, .bool false, .bool false, .bool false, .bool false, .bool false, .bool false, .bool false, .bool false, .bool false, .bool false, .bool false, .bool false, .bool false, .bool false, .bool false, .bool false, .bool false, .bool false, .bool false, .bool false, .bool false, .bool false, .bool false, .bool false, .bool false, .bool false, .bool false, .bool false, .bool false, .bool false, .bool false, .bool false, .bool false, .bool false, .bool false, .bool false, .bool false, .bool false, .bool false, .bool false, .bool false, .bool false, .bool false, .bool false, .bool false, .bool false, .bool false, .bool false, .bool false, .bool false, .bool false, .bool false, .bool false, .bool false, .bool false, .bool false, .bool false, .bool false, .bool false, .bool false, .bool false, .bool false, .bool false, .bool false, .bool false, .bool false, .bool false, .bool false, .bool false, .bool false, .bool false, .bool false, .bool false, .bool false, .bool false, .bool false, .bool false, .bool false, .bool false, .bool false, .bool false, .bool false, .bool false, .bool false, .bool false, .bool false, .bool false, .bool false, .bool false, .bool false, .bool false, .bool false, .bool false, .bool false, .bool false] rL) fun b h1 => aH (fun (s : Int × Int) h Kn => lH a b ((a.size : Nat) : Int) Q s.1 s.2 h Kn) (((a.size : Nat) : Int), 0) h1)
set_option maxRecDepth 100000 in
theorem wI (c : _) {Q : QT} {h : aB} (hk : qw c Q h) : aD Tryz.prog jj #[.string c] h Q :=
 aS follows Tryz.func156 (Tryz.call156 _) rfl rfl [(30, fun e h => dI .i64 (e 4) fun a => lE a Q h)] [(14, fun e h => dS (e 0) fun c => dA (e 3) fun d => dI .i64 (e 11) fun f => dI .i64 (e 4) fun a => dI .i64 (e 12) fun b => aH (fun (s : Int × Int) h Kn => lH c d f Q s.1 s.2 h Kn) (a, b) h)]
 ⟨fun e h _ hk => by
 have F := Ag.nil (e := e)
 have ⟨a, F, hk⟩ := eI F hk
 exact fX F (by as_aux_lemma => kernel_rfl) hk, trivial⟩
 ⟨⟨by kernel_rfl, fun e h he hk => by
 have F := Ag.nil (e := e)
 have ⟨c, F, hk⟩ := eS F hk
 have ⟨d, F, hk⟩ := eA F hk
 have ⟨f, F, hk⟩ := eI F hk
 have ⟨a, F, hk⟩ := eI F hk
 have ⟨b, F, hk⟩ := eI F hk
 exact bT (s0 := (a, b)) follows (fun _ h => by cases h) he F (fun s => [(12, .int .i64 s.2), (4, .int .i64 s.1)]) (by kernel_rfl) (F.take 2) hk (fun Kn1 e h => dI .i64 (e 4) fun a => dI .i64 (e 12) fun b => Kn1 (a, b) h) (fun Kn1 e h hk => by
  have F := Ag.nil (e := e)
  have ⟨a, F, hk⟩ := eI F hk
  have ⟨b, F, hk⟩ := eI F hk
  exact ⟨(a, b), F, hk⟩)
  (fun Kn1 => [(24, fun e h => dS (e 0) fun c => dA (e 3) fun d => dI .i64 (e 4) fun a => dI .i64 (e 5) fun g => dI .i64 (e 11) fun f => dI .i64 (e 12) fun b => gT c d a g f b Q Kn1 h)]) (fun Kn1 => [])
  (fun Kn1 => ⟨fun e h _ hk => by
 have F := Ag.nil (e := e)
 have ⟨c, F, hk⟩ := eS F hk
 have ⟨d, F, hk⟩ := eA F hk
 have ⟨a, F, hk⟩ := eI F hk
 have ⟨g, F, hk⟩ := eI F hk
 have ⟨f, F, hk⟩ := eI F hk
 have ⟨b, F, hk⟩ := eI F hk
 exact fX F (by as_aux_lemma => kernel_rfl) hk, trivial⟩)
  (fun Kn1 => trivial) (fun e s h Kn1 => by as_aux_lemma => kernel_rfl)⟩, trivial⟩ (by as_aux_lemma => kernel_rfl) hk
def kE (a : ByteArray) (Q : QT) (h : aB) : Prop :=
 if (((a.size : Nat) : Int) == 0) = true then (Q (.string (⟨#[]⟩ : ByteArray)) h) else (yg Tryz.prog aL (.int .i64 ((a.size : Nat) : Int)) (.int .i64 ((a.size : Nat) : Int)) h fun v h1 => ∃ c b d, v = .slice c b d ∧ cQ Tryz.prog .copy #[aL, bW] oF #[false, false] #[.slice c b d, .string a] h1 fun v h2 => ∃ g, v = .int .i64 g ∧ bO (0 : Int) b (nn c fun i => cQ Tryz.prog .unsafeString #[H3, oF] bW #[false, false] #[.pointer (some (i.add (((0 : Int)).toNat * 1))), .int .i64 ((b : Nat) : Int)] h2 fun v h3 => ∃ f, v = .string f ∧ Q (.string f) h3))
set_option maxRecDepth 100000 in
theorem p7 (a : _) {Q : QT} {h : aB} (hk : kE a Q h) : aD Tryz.prog gP #[.string a] h Q :=
 aS follows Tryz.func157 (Tryz.call157 _) rfl rfl [] []
 trivial
 trivial (by as_aux_lemma => kernel_rfl) hk
def oy (a : Int) (Q : QT) (h : aB) : Prop :=
 if (decide (a ≥ 97)) = true then (if (decide (a ≤ 102)) = true then (Q (.int .i64 (wrap .i64 ((wrap .i64 (wrap .u8 (a - 97))) + 10))) h) else (if (decide (a ≥ 65)) = true then (if (decide (a ≤ 70)) = true then (Q (.int .i64 (wrap .i64 ((wrap .i64 (wrap .u8 (a - 65))) + 10))) h) else (Q (.int .i64 (-1)) h)) else (Q (.int .i64 (-1)) h))) else (if (decide (a ≥ 65)) = true then (if (decide (a ≤ 70)) = true then (Q (.int .i64 (wrap .i64 ((wrap .i64 (wrap .u8 (a - 65))) + 10))) h) else (Q (.int .i64 (-1)) h)) else (Q (.int .i64 (-1)) h))
def wT (a : Int) (Q : QT) (h : aB) : Prop :=
 if (decide (a ≥ 48)) = true then (if (decide (a ≤ 57)) = true then (Q (.int .i64 (wrap .i64 (wrap .u8 (a - 48)))) h) else (oy a Q h)) else (oy a Q h)
set_option maxRecDepth 100000 in
theorem Cl (a : _) {Q : QT} {h : aB} (hk : wT a Q h) : aD Tryz.prog iH #[.int .u8 a] h Q :=
 aS follows Tryz.func158 (Tryz.call158 _) rfl rfl [(9, fun e h => dI .u8 (e 0) fun a => oy a Q h)] []
 ⟨fun e h _ hk => by
 have F := Ag.nil (e := e)
 have ⟨a, F, hk⟩ := eI F hk
 exact fX F (by as_aux_lemma => kernel_rfl) hk, trivial⟩
 trivial (by as_aux_lemma => kernel_rfl) hk
def jp (f : ByteArray) (g : Option Addr) (i j : Nat) (k a : Int) (Q : QT) (Kn1 : (Option Addr) × Nat × Nat × Int × Int → aB → Prop) (h : aB) : Prop :=
 mC f (some k) (some a) fun l => alV h (.cells #[.string l] bW) fun m h2 => cQ Tryz.prog .append #[eJ, eJ] eJ #[false, false] #[.slice g i j, .slice (some m) 1 1] h2 fun v h3 => ∃ b c d, v = .slice b c d ∧ Kn1 (b, c, d, wrap .i64 (a + 1), wrap .i64 (a + 1)) h3
def nG (b : ByteArray) (Q : QT) (c : Option Addr) (d f : Nat) (g a : Int) (h : aB) (Kn1 : (Option Addr) × Nat × Nat × Int × Int → aB → Prop) : Prop :=
 if (decide (a ≤ ((b.size : Nat) : Int))) = true then (if (a == ((b.size : Nat) : Int)) = true then (jp b c d f g a Q Kn1 h) else (jw b a fun i => if (i == 47) = true then (jp b c d f g a Q Kn1 h) else (Kn1 (c, d, f, g, wrap .i64 (a + 1)) h))) else (Q (.slice c d f) h)
def sS (a : ByteArray) (Q : QT) (h : aB) : Prop :=
 alV h (.cells #[] bW) fun b h1 => aH (fun (s : (Option Addr) × Nat × Nat × Int × Int) h Kn => nG a Q s.1 s.2.1 s.2.2.1 s.2.2.2.1 s.2.2.2.2 h Kn) (some b, 0, 0, 0, 0) h1
set_option maxRecDepth 100000 in
theorem yZ (g : _) {Q : QT} {h : aB} (hk : sS g Q h) : aD Tryz.prog nv #[.string g] h Q :=
 aS follows Tryz.func159 (Tryz.call159 _) rfl rfl [] [(10, fun e h => dS (e 0) fun g => dL (e 3) fun a b c => dI .i64 (e 4) fun d => dI .i64 (e 5) fun f => aH (fun (s : (Option Addr) × Nat × Nat × Int × Int) h Kn => nG g Q s.1 s.2.1 s.2.2.1 s.2.2.2.1 s.2.2.2.2 h Kn) (a, b, c, d, f) h)]
 trivial
 ⟨⟨by kernel_rfl, fun e h he hk => by
 have F := Ag.nil (e := e)
 have ⟨g, F, hk⟩ := eS F hk
 have ⟨a, b, c, F, hk⟩ := eL F hk
 have ⟨d, F, hk⟩ := eI F hk
 have ⟨f, F, hk⟩ := eI F hk
 exact bT (s0 := (a, b, c, d, f)) follows (fun _ h => by cases h) he F (fun s => [(5, .int .i64 s.2.2.2.2), (4, .int .i64 s.2.2.2.1), (3, .slice s.1 s.2.1 s.2.2.1)]) (by kernel_rfl) (F.take 3) hk (fun Kn1 e h => dL (e 3) fun a b c => dI .i64 (e 4) fun d => dI .i64 (e 5) fun f => Kn1 (a, b, c, d, f) h) (fun Kn1 e h hk => by
  have F := Ag.nil (e := e)
  have ⟨a, b, c, F, hk⟩ := eL F hk
  have ⟨d, F, hk⟩ := eI F hk
  have ⟨f, F, hk⟩ := eI F hk
  exact ⟨(a, b, c, d, f), F, hk⟩)
  (fun Kn1 => [(17, fun e h => dS (e 0) fun g => dL (e 3) fun a b c => dI .i64 (e 4) fun d => dI .i64 (e 5) fun f => jp g a b c d f Q Kn1 h)]) (fun Kn1 => [])
  (fun Kn1 => ⟨fun e h _ hk => by
 have F := Ag.nil (e := e)
 have ⟨g, F, hk⟩ := eS F hk
 have ⟨a, b, c, F, hk⟩ := eL F hk
 have ⟨d, F, hk⟩ := eI F hk
 have ⟨f, F, hk⟩ := eI F hk
 exact fX F (by as_aux_lemma => kernel_rfl) hk, trivial⟩)
  (fun Kn1 => trivial) (fun e s h Kn1 => by as_aux_lemma => kernel_rfl)⟩, trivial⟩ (by as_aux_lemma => kernel_rfl) hk
def cV (d : Option Addr) (f p : Nat) (g : Value) (i : Int) (Q : QT) (a : Int) (h : aB) (Kn1 : Int → aB → Prop) : Prop :=
 if (decide (a < i)) = true then (bO a f (nn d fun b => ldB h (b.add (a.toNat * 6)) fun j => ldI h ((b.add (a.toNat * 6)).add 1) .u64 fun k => ldI h ((b.add (a.toNat * 6)).add 2) .u64 fun l => ldB h ((b.add (a.toNat * 6)).add 3) fun m => ldI h ((b.add (a.toNat * 6)).add 4) .u64 fun n => ldI h ((b.add (a.toNat * 6)).add 5) .u64 fun o => my Tryz.prog g #[.agg #[.bool j, .int .u64 k, .int .u64 l, .bool m, .int .u64 n, .int .u64 o]] h fun v h1 => ∃ c, v = .bool c ∧ if c = true then (Q (.int .i64 a) h1) else (Kn1 (wrap .i64 (a + 1)) h1))) else (Q (.int .i64 (-1)) h)
def gQ (b : Option Addr) (a c : Nat) (d : Value) (Q : QT) (h : aB) : Prop :=
 aH (fun (s : Int) h Kn => cV b a c d ((a : Nat) : Int) Q s h Kn) 0 h
set_option maxRecDepth 100000 in
theorem lQ (b c d f : _) {Q : QT} {h : aB} (hk : gQ b c d f Q h) : aD Tryz.prog gH #[.slice b c d, f] h Q :=
 aS follows Tryz.func160 (Tryz.call160 _) rfl rfl [] [(6, fun e h => dL (e 0) fun b c d => dV (e 1) fun f => dI .i64 (e 7) fun g => dI .i64 (e 8) fun a => aH (fun (s : Int) h Kn => cV b c d f g Q s h Kn) a h)]
 trivial
 ⟨⟨by kernel_rfl, fun e h he hk => by
 have F := Ag.nil (e := e)
 have ⟨b, c, d, F, hk⟩ := eL F hk
 have ⟨f, F, hk⟩ := eV F hk
 have ⟨g, F, hk⟩ := eI F hk
 have ⟨a, F, hk⟩ := eI F hk
 exact bT (s0 := a) follows (fun _ h => by cases h) he F (fun s => [(8, .int .i64 s)]) (by kernel_rfl) (F.take 1) hk (fun Kn1 e h => dI .i64 (e 8) fun a => Kn1 a h) (fun Kn1 e h hk => by
  have F := Ag.nil (e := e)
  have ⟨a, F, hk⟩ := eI F hk
  exact ⟨a, F, hk⟩)
  (fun Kn1 => []) (fun Kn1 => [])
  (fun Kn1 => trivial)
  (fun Kn1 => trivial) (fun e s h Kn1 => by as_aux_lemma => kernel_rfl)⟩, trivial⟩ (by as_aux_lemma => kernel_rfl) hk
def dO (d : Option Addr) (f l : Nat) (g : Value) (i : Int) (Q : QT) (a : Int) (h : aB) (Kn1 : Int → aB → Prop) : Prop :=
 if (decide (a < i)) = true then (bO a f (nn d fun b => ldI h (b.add (a.toNat * 2)) .i64 fun j => ldI h ((b.add (a.toNat * 2)).add 1) .i64 fun k => my Tryz.prog g #[.agg #[.int .i64 j, .int .i64 k]] h fun v h1 => ∃ c, v = .bool c ∧ if c = true then (Q (.int .i64 a) h1) else (Kn1 (wrap .i64 (a + 1)) h1))) else (Q (.int .i64 (-1)) h)
def ig (b : Option Addr) (a c : Nat) (d : Value) (Q : QT) (h : aB) : Prop :=
 aH (fun (s : Int) h Kn => dO b a c d ((a : Nat) : Int) Q s h Kn) 0 h
set_option maxRecDepth 100000 in
theorem ml (b c d f : _) {Q : QT} {h : aB} (hk : ig b c d f Q h) : aD Tryz.prog gV #[.slice b c d, f] h Q :=
 aS follows Tryz.func161 (Tryz.call161 _) rfl rfl [] [(6, fun e h => dL (e 0) fun b c d => dV (e 1) fun f => dI .i64 (e 7) fun g => dI .i64 (e 8) fun a => aH (fun (s : Int) h Kn => dO b c d f g Q s h Kn) a h)]
 trivial
 ⟨⟨by kernel_rfl, fun e h he hk => by
 have F := Ag.nil (e := e)
 have ⟨b, c, d, F, hk⟩ := eL F hk
 have ⟨f, F, hk⟩ := eV F hk
 have ⟨g, F, hk⟩ := eI F hk
 have ⟨a, F, hk⟩ := eI F hk
 exact bT (s0 := a) follows (fun _ h => by cases h) he F (fun s => [(8, .int .i64 s)]) (by kernel_rfl) (F.take 1) hk (fun Kn1 e h => dI .i64 (e 8) fun a => Kn1 a h) (fun Kn1 e h hk => by
  have F := Ag.nil (e := e)
  have ⟨a, F, hk⟩ := eI F hk
  exact ⟨a, F, hk⟩)
  (fun Kn1 => []) (fun Kn1 => [])
  (fun Kn1 => trivial)
  (fun Kn1 => trivial) (fun e s h Kn1 => by as_aux_lemma => kernel_rfl)⟩, trivial⟩ (by as_aux_lemma => kernel_rfl) hk
def xX (b : Bool) (c d : Int) (Q : QT) (h : aB) : Prop :=
 alV h (.cells #[.bool b, .int .u64 c, .int .u64 d] cI) fun a h1 => ldB h1 a fun f => if f = true then (Q (.bool true) h1) else (ldI h1 (a.add 1) .u64 fun g => if (g == 0) = true then (ldI h1 (a.add 2) .u64 fun i => Q (.bool (decide (i < 4294967296))) h1) else (Q (.bool false) h1))
set_option maxRecDepth 100000 in
theorem DE (a b c : _) {Q : QT} {h : aB} (hk : xX a b c Q h) : aD Tryz.prog mz #[.agg #[.bool a, .int .u64 b, .int .u64 c]] h Q :=
 aS follows Tryz.func168 (Tryz.call168 _) rfl rfl [] []
 trivial
 trivial (by as_aux_lemma => kernel_rfl) hk
def yz (f : Bool) (g i : Int) (j : Bool) (k l : Int) (Q : QT) (h : aB) : Prop :=
 alV h (.cells #[.bool f, .int .u64 g, .int .u64 i, .bool j, .int .u64 k, .int .u64 l] lM) fun a h1 => ldB h1 a fun m => ldI h1 (a.add 1) .u64 fun n => ldI h1 (a.add 2) .u64 fun o => aD Tryz.prog mz #[.agg #[.bool m, .int .u64 n, .int .u64 o]] h1 fun v h2 => ∃ b, v = .bool b ∧ if b = true then (ldB h2 (a.add 3) fun p => ldI h2 (a.add 4) .u64 fun q => ldI h2 (a.add 5) .u64 fun r => aD Tryz.prog mz #[.agg #[.bool p, .int .u64 q, .int .u64 r]] h2 fun v h3 => ∃ c, v = .bool c ∧ if c = true then (ldB h3 a fun s => ldB h3 (a.add 3) fun t => if (s == t) = true then (ldB h3 (a.add 3) fun u => ldI h3 (a.add 4) .u64 fun w => ldI h3 (a.add 5) .u64 fun x => ldB h3 a fun y => ldI h3 (a.add 1) .u64 fun z => ldI h3 (a.add 2) .u64 fun A => aD Tryz.prog kB #[.agg #[.bool u, .int .u64 w, .int .u64 x], .agg #[.bool y, .int .u64 z, .int .u64 A]] h3 fun v h4 => ∃ d, v = .bool d ∧ Q (.bool (!d)) h4) else (Q (.bool false) h3)) else (Q (.bool false) h3)) else (Q (.bool false) h2)
set_option maxRecDepth 100000 in
theorem D2 (a b c d f g : _) {Q : QT} {h : aB} (hk : yz a b c d f g Q h) : aD Tryz.prog sx #[.agg #[.bool a, .int .u64 b, .int .u64 c, .bool d, .int .u64 f, .int .u64 g]] h Q :=
 aS follows Tryz.func169 (Tryz.call169 _) rfl rfl [] []
 trivial
 trivial (by as_aux_lemma => kernel_rfl) hk
def vN (c : Bool) (d f : Int) (g : Bool) (i j : Int) (Q : QT) (h : aB) : Prop :=
 alV h (.cells #[.bool c, .int .u64 d, .int .u64 f] cI) fun b h1 => alV h1 (.cells #[.bool g, .int .u64 i, .int .u64 j] cI) fun a h2 => ldB h2 b fun k => ldB h2 a fun l => if (!(k == l)) = true then (ldB h2 a fun m => Q (.bool m) h2) else (ldI h2 (b.add 1) .u64 fun n => ldI h2 (a.add 1) .u64 fun o => if (n != o) = true then (ldI h2 (b.add 1) .u64 fun p => ldI h2 (a.add 1) .u64 fun q => Q (.bool (decide (p < q))) h2) else (ldI h2 (b.add 2) .u64 fun r => ldI h2 (a.add 2) .u64 fun s => Q (.bool (decide (r < s))) h2))
set_option maxRecDepth 100000 in
theorem AG (a b c d f g : _) {Q : QT} {h : aB} (hk : vN a b c d f g Q h) : aD Tryz.prog kB #[.agg #[.bool a, .int .u64 b, .int .u64 c], .agg #[.bool d, .int .u64 f, .int .u64 g]] h Q :=
 aS follows Tryz.func170 (Tryz.call170 _) rfl rfl [] []
 trivial
 trivial (by as_aux_lemma => kernel_rfl) hk
def vG (b : ByteArray) (c d f : Bool) (g i : Int) (j : Bool) (Q : QT) (h : aB) : Prop :=
 alV h (.cells #[.string b, .bool c, .bool d, .bool f, .int .i64 g, .int .i64 i, .bool j] ei) fun a h1 => ldB h1 (a.add 2) fun k => if (!k) = true then (ldS h1 a fun l => Q (.bool (!(l.toList == (⟨#[]⟩ : ByteArray).toList))) h1) else (Q (.bool false) h1)
set_option maxRecDepth 100000 in
theorem Bi (a b c d f g i : _) {Q : QT} {h : aB} (hk : vG a b c d f g i Q h) : aD Tryz.prog qh #[.agg #[.string a, .bool b, .bool c, .bool d, .int .i64 f, .int .i64 g, .bool i]] h Q :=
 aS follows Tryz.func171 (Tryz.call171 _) rfl rfl [] []
 trivial
 trivial (by as_aux_lemma => kernel_rfl) hk
def lN (b : ByteArray) (c : Int) (g : Option Addr) (i l : Nat) (a : Int) (Q : QT) (Kn1 : Int × Int → aB → Prop) (h : aB) : Prop :=
 jw b a fun d => bO d i (nn g fun j => st1 h (j.add (d.toNat * 1)) (.bool true) fun h2 => jw b a fun k => aD Tryz.prog qk #[.int .u8 k] h2 fun v h3 => ∃ f, v = .bool f ∧ if f = true then (Kn1 (wrap .i64 (c - 8), wrap .i64 (a + 1)) h3) else (Kn1 (c, wrap .i64 (a + 1)) h3))
def rM (a : Int) (Q : QT) (h : aB) : Prop :=
 Q (.int .i64 (if (1 : Int) > a then (1 : Int) else a)) h
def rK (a : ByteArray) (c : Option Addr) (d g : Nat) (Q : QT) (f b : Int) (h : aB) (Kn1 : Int × Int → aB → Prop) : Prop :=
 if (decide (b < ((a.size : Nat) : Int))) = true then (jw a b fun i => bO i d (nn c fun j => ldB h (j.add (i.toNat * 1)) fun k => if (!k) = true then (lN a (wrap .i64 (f + 16)) c d g b Q Kn1 h) else (lN a f c d g b Q Kn1 h))) else (rM f Q h)
def wX (a : ByteArray) (Q : QT) (h : aB) : Prop :=
 if (a.toList == (⟨#[]⟩ : ByteArray).toList) = true then (Q (.int .i64 0) h) else (yg Tryz.prog qL (.int .i64 256) (.int .i64 256) h fun v h1 => ∃ b c d, v = .slice b c d ∧ aH (fun (s : Int × Int) h Kn => rK a b c d Q s.1 s.2 h Kn) (((a.size : Nat) : Int), 0) h1)
set_option maxRecDepth 100000 in
theorem Ci (c : _) {Q : QT} {h : aB} (hk : wX c Q h) : aD Tryz.prog jU #[.string c] h Q :=
 aS follows Tryz.func172 (Tryz.call172 _) rfl rfl [(28, fun e h => dI .i64 (e 3) fun a => rM a Q h)] [(14, fun e h => dS (e 0) fun c => dL (e 4) fun d f g => dI .i64 (e 3) fun a => dI .i64 (e 5) fun b => aH (fun (s : Int × Int) h Kn => rK c d f g Q s.1 s.2 h Kn) (a, b) h)]
 ⟨fun e h _ hk => by
 have F := Ag.nil (e := e)
 have ⟨a, F, hk⟩ := eI F hk
 exact fX F (by as_aux_lemma => kernel_rfl) hk, trivial⟩
 ⟨⟨by kernel_rfl, fun e h he hk => by
 have F := Ag.nil (e := e)
 have ⟨c, F, hk⟩ := eS F hk
 have ⟨d, f, g, F, hk⟩ := eL F hk
 have ⟨a, F, hk⟩ := eI F hk
 have ⟨b, F, hk⟩ := eI F hk
 exact bT (s0 := (a, b)) follows (fun _ h => by cases h) he F (fun s => [(5, .int .i64 s.2), (3, .int .i64 s.1)]) (by kernel_rfl) (F.take 2) hk (fun Kn1 e h => dI .i64 (e 3) fun a => dI .i64 (e 5) fun b => Kn1 (a, b) h) (fun Kn1 e h hk => by
  have F := Ag.nil (e := e)
  have ⟨a, F, hk⟩ := eI F hk
  have ⟨b, F, hk⟩ := eI F hk
  exact ⟨(a, b), F, hk⟩)
  (fun Kn1 => [(22, fun e h => dS (e 0) fun c => dI .i64 (e 3) fun a => dL (e 4) fun d f g => dI .i64 (e 5) fun b => lN c a d f g b Q Kn1 h)]) (fun Kn1 => [])
  (fun Kn1 => ⟨fun e h _ hk => by
 have F := Ag.nil (e := e)
 have ⟨c, F, hk⟩ := eS F hk
 have ⟨a, F, hk⟩ := eI F hk
 have ⟨d, f, g, F, hk⟩ := eL F hk
 have ⟨b, F, hk⟩ := eI F hk
 exact fX F (by as_aux_lemma => kernel_rfl) hk, trivial⟩)
  (fun Kn1 => trivial) (fun e s h Kn1 => by as_aux_lemma => kernel_rfl)⟩, trivial⟩ (by as_aux_lemma => kernel_rfl) hk
def kg (a : Int) (Q : QT) (h : aB) : Prop :=
 if (decide (97 ≤ a)) = true then (if (decide (a ≤ 102)) = true then (Q (.int .i64 (wrap .i64 ((wrap .i64 (wrap .u8 (a - 97))) + 10))) h) else (if (decide (65 ≤ a)) = true then (if (decide (a ≤ 70)) = true then (Q (.int .i64 (wrap .i64 ((wrap .i64 (wrap .u8 (a - 65))) + 10))) h) else (Q (.int .i64 (-1)) h)) else (Q (.int .i64 (-1)) h))) else (if (decide (65 ≤ a)) = true then (if (decide (a ≤ 70)) = true then (Q (.int .i64 (wrap .i64 ((wrap .i64 (wrap .u8 (a - 65))) + 10))) h) else (Q (.int .i64 (-1)) h)) else (Q (.int .i64 (-1)) h))
def rX (a : Int) (Q : QT) (h : aB) : Prop :=
 if (decide (48 ≤ a)) = true then (if (decide (a ≤ 57)) = true then (Q (.int .i64 (wrap .i64 (wrap .u8 (a - 48)))) h) else (kg a Q h)) else (kg a Q h)
set_option maxRecDepth 100000 in
theorem xJ (a : _) {Q : QT} {h : aB} (hk : rX a Q h) : aD Tryz.prog iE #[.int .u8 a] h Q :=
 aS follows Tryz.func174 (Tryz.call174 _) rfl rfl [(9, fun e h => dI .u8 (e 0) fun a => kg a Q h)] []
 ⟨fun e h _ hk => by
 have F := Ag.nil (e := e)
 have ⟨a, F, hk⟩ := eI F hk
 exact fX F (by as_aux_lemma => kernel_rfl) hk, trivial⟩
 trivial (by as_aux_lemma => kernel_rfl) hk
def qs (b : ByteArray) (c : Int) (Q : QT) (h : aB) : Prop :=
 aD Tryz.prog iU #[.string b, .int .u8 c] h fun v h1 => ∃ a, v = .int .i64 a ∧ Q (.int .i64 a) h1
set_option maxRecDepth 100000 in
theorem wG (a b : _) {Q : QT} {h : aB} (hk : qs a b Q h) : aD Tryz.prog jh #[.string a, .int .u8 b] h Q :=
 aS follows Tryz.func175 (Tryz.call175 _) rfl rfl [] []
 trivial
 trivial (by as_aux_lemma => kernel_rfl) hk
def uG (d f : ByteArray) (Q : QT) (h : aB) : Prop :=
 aD Tryz.prog wQ #[.string d, .string f, .int .i64 0, .int .i64 (-1)] h fun v h1 => ∃ a b c, v = .slice a b c ∧ Q (.slice a b c) h1
set_option maxRecDepth 100000 in
theorem Ap (a b : _) {Q : QT} {h : aB} (hk : uG a b Q h) : aD Tryz.prog oZ #[.string a, .string b] h Q :=
 aS follows Tryz.func176 (Tryz.call176 _) rfl rfl [] []
 trivial
 trivial (by as_aux_lemma => kernel_rfl) hk
def qp (b c : ByteArray) (Q : QT) (h : aB) : Prop :=
 aD Tryz.prog eO #[.string b, .string c] h fun v h1 => ∃ a, v = .bool a ∧ Q (.bool a) h1
set_option maxRecDepth 100000 in
theorem wL (a b : _) {Q : QT} {h : aB} (hk : qp a b Q h) : aD Tryz.prog lJ #[.string a, .string b] h Q :=
 aS follows Tryz.func177 (Tryz.call177 _) rfl rfl [] []
 trivial
 trivial (by as_aux_lemma => kernel_rfl) hk
def uH (d : Option Addr) (f g : Nat) (i : ByteArray) (a : Int) (b : ByteArray) (j : Option Addr) (k l : Nat) (m c : Int) (Q : QT) (Kn3 : Int × Int → aB → Prop) (h : aB) : Prop :=
 Kn3 (wrap .i64 (a + ((b.size : Nat) : Int)), wrap .i64 (c + 1)) h
def u1 (b : Addr) (Q : QT) (h : aB) : Prop :=
 aD Tryz.prog rS #[.pointer (some b)] h fun v h6 => ∃ a, v = .string a ∧ Q (.string a) h6
def uK (c : ByteArray) (b : Addr) (d : Option Addr) (f o : Nat) (g : Int) (Q : QT) (a : Int) (h : aB) (Kn6 : Int → aB → Prop) : Prop :=
 if (decide (a < g)) = true then (bO a f (nn d fun i => ldS h (i.add (a.toNat * 1)) fun j => aD Tryz.prog fU #[.pointer (some b), .string c] h fun v h4 => ∃ k l, v = .tuple #[.int .i64 k, l] ∧ aD Tryz.prog fU #[.pointer (some b), .string j] h4 fun v h5 => ∃ m n, v = .tuple #[.int .i64 m, n] ∧ Kn6 (wrap .i64 (a + 1)) h5)) else (u1 b Q h)
def uP (b : Option Addr) (c f : Nat) (g : ByteArray) (i : Int) (Q : QT) (h : aB) : Prop :=
 alV h (.cells #[.pointer none, .slice none 0 0] yA) fun a h1 => aD Tryz.prog tF #[.pointer (some a), .int .i64 i] h1 fun v h2 => v = .tuple #[] ∧ bO (0 : Int) c (nn b fun j => ldS h2 (j.add (((0 : Int)).toNat * 1)) fun k => aD Tryz.prog fU #[.pointer (some a), .string k] h2 fun v h3 => ∃ l m, v = .tuple #[.int .i64 l, m] ∧ fM 1 b c f (some (1 : Int)) none none fun n d o => aH (fun (s : Int) h Kn => uK g a n d o ((d : Nat) : Int) Q s h Kn) 0 h3)
def uT (c : Option Addr) (d f : Nat) (g : ByteArray) (i : Option Addr) (j m : Nat) (k : Int) (Q : QT) (b a : Int) (h : aB) (Kn3 : Int × Int → aB → Prop) : Prop :=
 if (decide (a < k)) = true then (bO a j (nn i fun n => ldS h (n.add (a.toNat * 1)) fun l => if (decide (((l.size : Nat) : Int) > (wrap .i64 (9223372036854775807 - b)))) = true then (False) else (uH c d f g b l i j m k a Q Kn3 h))) else (uP c d f g b Q h)
def p8 (b : Option Addr) (a c : Nat) (d : ByteArray) (f : Int) (Q : QT) (h : aB) : Prop :=
 aH (fun (s : Int × Int) h Kn => uT b a c d b a c ((a : Nat) : Int) Q s.1 s.2 h Kn) (f, 0) h
def uL (c : Option Addr) (a d : Nat) (b : ByteArray) (f : Int) (Q : QT) (h : aB) : Prop :=
 p8 c a d b (wrap .i64 (f + (wrap .i64 (((b.size : Nat) : Int) * (wrap .i64 (((a : Nat) : Int) - 1)))))) Q h
def vO (c : Option Addr) (a d : Nat) (b : ByteArray) (Q : QT) (h : aB) : Prop :=
 if (((a : Nat) : Int) == 0) = true then (Q (.string (⟨#[]⟩ : ByteArray)) h) else (if (((a : Nat) : Int) == 1) = true then (bO (0 : Int) a (nn c fun f => ldS h (f.add (((0 : Int)).toNat * 1)) fun g => Q (.string g) h)) else (if (decide (((b.size : Nat) : Int) > 0)) = true then ((wrap .i64 (((a : Nat) : Int) - 1)) ≠ 0 ∧ if (decide (((b.size : Nat) : Int) ≥ (wrap .i64 (Int.tdiv 9223372036854775807 (wrap .i64 (((a : Nat) : Int) - 1)))))) = true then (False) else (uL c a d b 0 Q h)) else (p8 c a d b 0 Q h)))
set_option maxRecDepth 100000 in
theorem BP (c d f a : _) {Q : QT} {h : aB} (hk : vO c d f a Q h) : aD Tryz.prog mH #[.slice c d f, .string a] h Q :=
 aS follows Tryz.func178 (Tryz.call178 _) rfl rfl [(22, fun e h => dL (e 0) fun c d f => dS (e 1) fun a => dI .i64 (e 5) fun b => uL c d f a b Q h), (24, fun e h => dL (e 0) fun c d f => dS (e 1) fun a => dI .i64 (e 5) fun b => p8 c d f a b Q h), (38, fun e h => dL (e 0) fun c d f => dS (e 1) fun a => dI .i64 (e 5) fun b => uP c d f a b Q h), (56, fun e h => dA (e 8) fun j => u1 j Q h)] [(26, fun e h => dL (e 0) fun c d f => dS (e 1) fun a => dL (e 39) fun k l m => dI .i64 (e 40) fun n => dI .i64 (e 5) fun b => dI .i64 (e 41) fun g => aH (fun (s : Int × Int) h Kn => uT c d f a k l m n Q s.1 s.2 h Kn) (b, g) h), (46, fun e h => dS (e 1) fun a => dA (e 8) fun j => dL (e 63) fun o p q => dI .i64 (e 64) fun r => dI .i64 (e 65) fun i => aH (fun (s : Int) h Kn => uK a j o p q r Q s h Kn) i h)]
 ⟨fun e h _ hk => by
 have F := Ag.nil (e := e)
 have ⟨c, d, f, F, hk⟩ := eL F hk
 have ⟨a, F, hk⟩ := eS F hk
 have ⟨b, F, hk⟩ := eI F hk
 exact fX F (by as_aux_lemma => kernel_rfl) hk, fun e h _ hk => by
 have F := Ag.nil (e := e)
 have ⟨c, d, f, F, hk⟩ := eL F hk
 have ⟨a, F, hk⟩ := eS F hk
 have ⟨b, F, hk⟩ := eI F hk
 exact fX F (by as_aux_lemma => kernel_rfl) hk, fun e h _ hk => by
 have F := Ag.nil (e := e)
 have ⟨c, d, f, F, hk⟩ := eL F hk
 have ⟨a, F, hk⟩ := eS F hk
 have ⟨b, F, hk⟩ := eI F hk
 exact fX F (by as_aux_lemma => kernel_rfl) hk, fun e h _ hk => by
 have F := Ag.nil (e := e)
 have ⟨j, F, hk⟩ := eA F hk
 exact fX F (by as_aux_lemma => kernel_rfl) hk, trivial⟩
 ⟨⟨by kernel_rfl, fun e h he hk => by
 have F := Ag.nil (e := e)
 have ⟨c, d, f, F, hk⟩ := eL F hk
 have ⟨a, F, hk⟩ := eS F hk
 have ⟨k, l, m, F, hk⟩ := eL F hk
 have ⟨n, F, hk⟩ := eI F hk
 have ⟨b, F, hk⟩ := eI F hk
 have ⟨g, F, hk⟩ := eI F hk
 exact bT (s0 := (b, g)) follows (fun _ h => by cases h) he F (fun s => [(41, .int .i64 s.2), (5, .int .i64 s.1)]) (by kernel_rfl) (F.take 2) hk (fun Kn3 e h => dI .i64 (e 5) fun b => dI .i64 (e 41) fun g => Kn3 (b, g) h) (fun Kn3 e h hk => by
  have F := Ag.nil (e := e)
  have ⟨b, F, hk⟩ := eI F hk
  have ⟨g, F, hk⟩ := eI F hk
  exact ⟨(b, g), F, hk⟩)
  (fun Kn3 => [(34, fun e h => dL (e 0) fun c d f => dS (e 1) fun a => dI .i64 (e 5) fun b => dS (e 7) fun t => dL (e 39) fun k l m => dI .i64 (e 40) fun n => dI .i64 (e 41) fun g => uH c d f a b t k l m n g Q Kn3 h)]) (fun Kn3 => [])
  (fun Kn3 => ⟨fun e h _ hk => by
 have F := Ag.nil (e := e)
 have ⟨c, d, f, F, hk⟩ := eL F hk
 have ⟨a, F, hk⟩ := eS F hk
 have ⟨b, F, hk⟩ := eI F hk
 have ⟨t, F, hk⟩ := eS F hk
 have ⟨k, l, m, F, hk⟩ := eL F hk
 have ⟨n, F, hk⟩ := eI F hk
 have ⟨g, F, hk⟩ := eI F hk
 exact fX F (by as_aux_lemma => kernel_rfl) hk, trivial⟩)
  (fun Kn3 => trivial) (fun e s h Kn3 => by as_aux_lemma => kernel_rfl)⟩, ⟨by kernel_rfl, fun e h he hk => by
 have F := Ag.nil (e := e)
 have ⟨a, F, hk⟩ := eS F hk
 have ⟨j, F, hk⟩ := eA F hk
 have ⟨o, p, q, F, hk⟩ := eL F hk
 have ⟨r, F, hk⟩ := eI F hk
 have ⟨i, F, hk⟩ := eI F hk
 exact bT (s0 := i) follows (fun _ h => by cases h) he F (fun s => [(65, .int .i64 s)]) (by kernel_rfl) (F.take 1) hk (fun Kn6 e h => dI .i64 (e 65) fun i => Kn6 i h) (fun Kn6 e h hk => by
  have F := Ag.nil (e := e)
  have ⟨i, F, hk⟩ := eI F hk
  exact ⟨i, F, hk⟩)
  (fun Kn6 => []) (fun Kn6 => [])
  (fun Kn6 => trivial)
  (fun Kn6 => trivial) (fun e s h Kn6 => by as_aux_lemma => kernel_rfl)⟩, trivial⟩ (by as_aux_lemma => kernel_rfl) hk
def xi (a : Int) (Q : QT) (h : aB) : Prop :=
 if (decide (a ≥ 48)) = true then (Q (.bool (decide (a ≤ 57))) h) else (Q (.bool false) h)
set_option maxRecDepth 100000 in
theorem Cm (a : _) {Q : QT} {h : aB} (hk : xi a Q h) : aD Tryz.prog rC #[.int .u8 a] h Q :=
 aS follows Tryz.func179 (Tryz.call179 _) rfl rfl [] []
 trivial
 trivial (by as_aux_lemma => kernel_rfl) hk
def zB (c : Bool) (d f a : Int) (Q : QT) (h : aB) : Prop :=
 alV h (.cells #[.bool c, .int .u64 d, .int .u64 f] cI) fun b h1 => ldB h1 b fun g => if (!g) = true then (ldI h1 (b.add 2) .u64 fun i => 0 ≤ (wrap .u64 (wrap .i64 (31 - a))) ∧ Q (.bool ((wrap .u64 (BitVec.toNat (BitVec.ofInt (IntKind.bits .u64) (Int.fdiv i (2 ^ (min (Int.toNat (wrap .u64 (wrap .i64 (31 - a)))) (IntKind.bits .u64)))) &&& BitVec.ofInt (IntKind.bits .u64) 1) : Int)) == 1)) h1) else (if (decide (a < 64)) = true then (ldI h1 (b.add 1) .u64 fun j => 0 ≤ (wrap .u64 (wrap .i64 (63 - a))) ∧ Q (.bool ((wrap .u64 (BitVec.toNat (BitVec.ofInt (IntKind.bits .u64) (Int.fdiv j (2 ^ (min (Int.toNat (wrap .u64 (wrap .i64 (63 - a)))) (IntKind.bits .u64)))) &&& BitVec.ofInt (IntKind.bits .u64) 1) : Int)) == 1)) h1) else (ldI h1 (b.add 2) .u64 fun k => 0 ≤ (wrap .u64 (wrap .i64 (127 - a))) ∧ Q (.bool ((wrap .u64 (BitVec.toNat (BitVec.ofInt (IntKind.bits .u64) (Int.fdiv k (2 ^ (min (Int.toNat (wrap .u64 (wrap .i64 (127 - a)))) (IntKind.bits .u64)))) &&& BitVec.ofInt (IntKind.bits .u64) 1) : Int)) == 1)) h1))
set_option maxRecDepth 100000 in
theorem Fk (a b c d : _) {Q : QT} {h : aB} (hk : zB a b c d Q h) : aD Tryz.prog ui #[.agg #[.bool a, .int .u64 b, .int .u64 c], .int .i64 d] h Q :=
 aS follows Tryz.func180 (Tryz.call180 _) rfl rfl [] []
 trivial
 trivial (by as_aux_lemma => kernel_rfl) hk
def pP (a : Int) (Q : QT) (h : aB) : Prop :=
 if (decide (a ≥ 97)) = true then (if (decide (a ≤ 122)) = true then (Q (.bool true) h) else (if (decide (a ≥ 65)) = true then (if (decide (a ≤ 90)) = true then (Q (.bool true) h) else (if (decide (a ≥ 48)) = true then (if (decide (a ≤ 57)) = true then (Q (.bool true) h) else (Q (.bool (a == 32)) h)) else (Q (.bool (a == 32)) h))) else (if (decide (a ≥ 48)) = true then (if (decide (a ≤ 57)) = true then (Q (.bool true) h) else (Q (.bool (a == 32)) h)) else (Q (.bool (a == 32)) h)))) else (if (decide (a ≥ 65)) = true then (if (decide (a ≤ 90)) = true then (Q (.bool true) h) else (if (decide (a ≥ 48)) = true then (if (decide (a ≤ 57)) = true then (Q (.bool true) h) else (Q (.bool (a == 32)) h)) else (Q (.bool (a == 32)) h))) else (if (decide (a ≥ 48)) = true then (if (decide (a ≤ 57)) = true then (Q (.bool true) h) else (Q (.bool (a == 32)) h)) else (Q (.bool (a == 32)) h)))
set_option maxRecDepth 100000 in
theorem vr (a : _) {Q : QT} {h : aB} (hk : pP a Q h) : aD Tryz.prog kS #[.int .u8 a] h Q :=
 aS follows Tryz.func181 (Tryz.call181 _) rfl rfl [] []
 trivial
 trivial (by as_aux_lemma => kernel_rfl) hk
def vU (a : Int) (Q : QT) (h : aB) : Prop :=
 if (decide (a ≥ 97)) = true then (if (decide (a ≤ 122)) = true then (Q (.bool true) h) else (if (decide (a ≥ 65)) = true then (if (decide (a ≤ 90)) = true then (Q (.bool true) h) else (if (decide (a ≥ 48)) = true then (if (decide (a ≤ 57)) = true then (Q (.bool true) h) else (Q (.bool (a == 32)) h)) else (Q (.bool (a == 32)) h))) else (if (decide (a ≥ 48)) = true then (if (decide (a ≤ 57)) = true then (Q (.bool true) h) else (Q (.bool (a == 32)) h)) else (Q (.bool (a == 32)) h)))) else (if (decide (a ≥ 65)) = true then (if (decide (a ≤ 90)) = true then (Q (.bool true) h) else (if (decide (a ≥ 48)) = true then (if (decide (a ≤ 57)) = true then (Q (.bool true) h) else (Q (.bool (a == 32)) h)) else (Q (.bool (a == 32)) h))) else (if (decide (a ≥ 48)) = true then (if (decide (a ≤ 57)) = true then (Q (.bool true) h) else (Q (.bool (a == 32)) h)) else (Q (.bool (a == 32)) h)))
set_option maxRecDepth 100000 in
theorem Bk (a : _) {Q : QT} {h : aB} (hk : vU a Q h) : aD Tryz.prog qk #[.int .u8 a] h Q :=
 aS follows Tryz.func183 (Tryz.call183 _) rfl rfl [] []
 trivial
 trivial (by as_aux_lemma => kernel_rfl) hk
def jl (b : ByteArray) (c : Int) (Q : QT) (h : aB) : Prop :=
 aD Tryz.prog iB #[.string b, .int .u8 c] h fun v h1 => ∃ a, v = .int .i64 a ∧ Q (.int .i64 a) h1
set_option maxRecDepth 100000 in
theorem n7 (a b : _) {Q : QT} {h : aB} (hk : jl a b Q h) : aD Tryz.prog iU #[.string a, .int .u8 b] h Q :=
 aS follows Tryz.func184 (Tryz.call184 _) rfl rfl [] []
 trivial
 trivial (by as_aux_lemma => kernel_rfl) hk
def jd (b a : ByteArray) (Q : QT) (h : aB) : Prop :=
 if (decide (((b.size : Nat) : Int) ≥ ((a.size : Nat) : Int))) = true then (mC b none (some ((a.size : Nat) : Int)) fun c => Q (.bool (c.toList == a.toList)) h) else (Q (.bool false) h)
set_option maxRecDepth 100000 in
theorem nY (a b : _) {Q : QT} {h : aB} (hk : jd a b Q h) : aD Tryz.prog eO #[.string a, .string b] h Q :=
 aS follows Tryz.func186 (Tryz.call186 _) rfl rfl [] []
 trivial
 trivial (by as_aux_lemma => kernel_rfl) hk
end Go.Proofs.YtjmfpeiidlpngaaGreatDoor
namespace Go.Proofs.YtjmfpeiidlpngaaGreatDoor.Au
set_option linter.unusedSimpArgs false
set_option linter.unusedVariables false
set_option maxRecDepth 20000
abbrev Nm := List UInt8
def ls (sg : List Nm) : Nm → Nm
 | [] => []
 | c :: w => if c :: w ∈ sg then c :: w else ls sg w
structure Pre (sg : List Nm) : Prop where
 nil : [] ∈ sg
 pre : ∀ w c, w ++ [c] ∈ sg → w ∈ sg
section
variable {sg : List Nm}
theorem zh (P : Pre sg) : ∀ w, ls sg w ∈ sg
 | [] => P.nil
 | c :: w => by
  unfold ls; split
  ·assumption
  ·exact zh P w
theorem vR : ∀ w, ls sg w <:+ w
 | [] => List.suffix_refl _
 | c :: w => by
  unfold ls; split
  ·exact List.suffix_refl _
  ·exact (vR w).trans (List.suffix_cons c w)
theorem zg : ∀ (w : Nm) {v : Nm}, v <:+ w → v ∈ sg → v <:+ ls sg w
 | [], v, h, _ => by rw [List.suffix_nil.1 h]; exact List.nil_suffix
 | c :: w, v, h, hv => by
  unfold ls; split
  ·exact h
  ·rename_i hn
   rcases List.suffix_cons_iff.1 h with h | h
   ·subst h; exact absurd hv hn
   ·exact zg w h hv
theorem MA {a b : Nm} (h1 : a <:+ b) (h2 : b <:+ a) : a = b := by
 have := h1.length_le; have := h2.length_le
 exact h1.eq_of_length (by omega)
theorem L3 (P : Pre sg) {w v : Nm} (h1 : v ∈ sg) (h2 : v <:+ w) (h3 : ∀ u, u <:+ w → u ∈ sg → u <:+ v) : v = ls sg w :=
 MA (zg w h2 h1) (h3 _ (vR w) (zh P w))
theorem GX {w : Nm} (h : w ∈ sg) : ls sg w = w := by
 cases w with
 | nil => rfl
 | cons c w => unfold ls; rw [if_pos h]
theorem Jj {v w : Nm} {c : UInt8} (h : v <:+ w ++ [c]) : v = [] ∨ ∃ u, v = u ++ [c] ∧ u <:+ w := by
 rcases List.eq_nil_or_concat v with rfl | ⟨u, d, rfl⟩
 ·exact .inl rfl
 ·right
  rw [List.concat_eq_append] at h ⊢
  obtain ⟨t, ht⟩ := h
  rw [← List.append_assoc] at ht
  obtain ⟨h1, h2⟩ := List.append_inj' ht rfl
  cases h2
  exact ⟨u, rfl, t, h1⟩
theorem EA {v w : Nm} {c : UInt8} (h : v <:+ w) : v ++ [c] <:+ w ++ [c] := by
 obtain ⟨t, rfl⟩ := h; exact ⟨t, by rw [List.append_assoc]⟩
theorem Hq (P : Pre sg) (w : Nm) (c : UInt8) : ls sg (w ++ [c]) = ls sg (ls sg w ++ [c]) := by
 refine (L3 P (zh P _) ((vR _).trans (EA (vR w))) fun u h1 h2 => ?_).symm
 rcases Jj h1 with rfl | ⟨v, rfl, hv⟩
 ·exact List.nil_suffix
 ·exact zg _ (EA (zg w hv (P.pre _ _ h2))) h2
def fl (sg : List Nm) (w : Nm) : Nm := ls sg w.tail
theorem LO (P : Pre sg) (w : Nm) : fl sg w ∈ sg := zh P _
theorem zq (w : Nm) (h : w ≠ []) : (fl sg w).length < w.length := by
 have h1 := (vR (sg := sg) w.tail).length_le
 have h2 := List.length_pos_iff.2 h
 unfold fl
 rw [List.length_tail] at h1; omega
theorem E1 (P : Pre sg) (w : Nm) (hw : w ≠ []) (c : UInt8) : fl sg (w ++ [c]) = ls sg (fl sg w ++ [c]) := by
 unfold fl
 rw [List.tail_append_of_ne_nil hw, Hq P]
theorem KI (P : Pre sg) (w : Nm) (hw : w ≠ []) (c : UInt8) (h : w ++ [c] ∉ sg) : ls sg (w ++ [c]) = ls sg (fl sg w ++ [c]) := by
 rw [← E1 P w hw c]
 cases w with
 | nil => exact absurd rfl hw
 | cons d w =>
  show ls sg (d :: (w ++ [c])) = ls sg (w ++ [c])
  rw [ls]; exact if_neg h
theorem Mt (P : Pre sg) {v w : Nm} (h : v <:+ w) (hv : v ∈ sg) (hne : v ≠ w) : v <:+ fl sg w := by
 cases w with
 | nil => rw [List.suffix_nil.1 h]; exact List.nil_suffix
 | cons c w =>
  rcases List.suffix_cons_iff.1 h with h | h
  ·exact absurd h hne
  ·exact zg w h hv
theorem Je (w : Nm) : fl sg w <:+ w := (vR _).trans (List.tail_suffix w)
variable (sg) in
def vm (E : Nm → List Nat) (w : Nm) : Nm :=
 if h : w = [] then [] else if E (fl sg w) ≠ [] then fl sg w else vm E (fl sg w)
termination_by w.length
decreasing_by exact zq w h
theorem tQ (E : Nm → List Nat) : vm sg E [] = [] := by rw [vm, dif_pos rfl]
theorem wm (E : Nm → List Nat) {w : Nm} (h : w ≠ []) : vm sg E w = if E (fl sg w) ≠ [] then fl sg w else vm sg E (fl sg w) := by rw [vm, dif_neg h]
theorem Bf (P : Pre sg) (E : Nm → List Nat) : ∀ (n : Nat) (w : Nm), w.length ≤ n → vm sg E w ∈ sg
 | 0, w, h => by rw [List.length_eq_zero_iff.1 (Nat.le_zero.1 h), tQ]; exact P.nil
 | n + 1, w, h => by
  by_cases hw : w = []
  ·rw [hw, tQ]; exact P.nil
  ·rw [wm E hw]; split
   ·exact LO P w
   ·exact Bf P E n _ (by have := zq (sg := sg) w hw; omega)
theorem vV (E : Nm → List Nat) : ∀ (n : Nat) (w : Nm), w.length ≤ n → w ≠ [] → (vm sg E w).length < w.length
 | 0, w, h, hw => absurd (List.length_eq_zero_iff.1 (Nat.le_zero.1 h)) hw
 | n + 1, w, h, hw => by
  have hl := zq (sg := sg) w hw
  rw [wm E hw]; split
  ·exact hl
  ·by_cases hf : fl sg w = []
   ·rw [hf, tQ]; exact List.length_pos_iff.2 hw
   ·have := vV E n (fl sg w) (by omega) hf; omega
theorem Ba (E : Nm → List Nat) : ∀ (n : Nat) (w : Nm), w.length ≤ n → vm sg E w <:+ w
 | 0, w, h => by rw [List.length_eq_zero_iff.1 (Nat.le_zero.1 h), tQ]; exact List.suffix_refl _
 | n + 1, w, h => by
  by_cases hw : w = []
  ·rw [hw, tQ]; exact List.suffix_refl _
  ·rw [wm E hw]; split
   ·exact Je w
   ·exact (Ba E n _ (by have := zq (sg := sg) w hw; omega)).trans (Je w)
theorem Ey (P : Pre sg) (E : Nm → List Nat) (h0 : E [] = []) : ∀ (n : Nat) (w : Nm), w.length ≤ n → ∀ v, v <:+ w → v ∈ sg → E v ≠ [] → v ≠ w → v <:+ vm sg E w
 | 0, w, h, v, hs, hm, he, hne => by
  have := List.length_eq_zero_iff.1 (Nat.le_zero.1 h)
  subst this
  exact absurd (List.suffix_nil.1 hs) hne
 | n + 1, w, h, v, hs, hm, he, hne => by
  by_cases hw : w = []
  ·subst hw; exact absurd (List.suffix_nil.1 hs) hne
  ·have hf := Mt P hs hm hne
   rw [wm E hw]; split
   ·exact hf
   ·rename_i hE
    have hE : E (fl sg w) = [] := Classical.byContradiction fun h => hE h
    exact Ey P E h0 n _ (by have := zq (sg := sg) w hw; omega) v hf hm he fun h => by rw [h] at he; exact he hE
variable (sg) in
def mQ (E : Nm → List Nat) (w : Nm) : List Nat :=
 if h : w = [] then [] else E w ++ mQ E (vm sg E w)
termination_by w.length
decreasing_by exact vV E _ w (Nat.le_refl _) h
theorem uw (E : Nm → List Nat) : mQ sg E [] = [] := by rw [mQ, dif_pos rfl]
theorem zt (E : Nm → List Nat) {w : Nm} (h : w ≠ []) : mQ sg E w = E w ++ mQ sg E (vm sg E w) := by rw [mQ, dif_neg h]
theorem wu (P : Pre sg) (E : Nm → List Nat) (h0 : E [] = []) (j : Nat) : ∀ (n : Nat) (w : Nm), w.length ≤ n → w ∈ sg → (j ∈ mQ sg E w ↔ ∃ v, v <:+ w ∧ v ∈ sg ∧ j ∈ E v)
 | 0, w, h, hw => by
  have := List.length_eq_zero_iff.1 (Nat.le_zero.1 h)
  subst this
  rw [uw]
  constructor
  ·intro h; cases h
  ·rintro ⟨v, h1, h2, h3⟩; rw [List.suffix_nil.1 h1, h0] at h3; cases h3
 | n + 1, w, h, hw => by
  by_cases hn : w = []
  ·subst hn; exact wu P E h0 j 0 [] (Nat.le_refl _) hw
  ·have hl := vV (sg := sg) E _ w (Nat.le_refl _) hn
   have ih := wu P E h0 j n (vm sg E w) (by omega) (Bf P E _ w (Nat.le_refl _))
   rw [zt E hn, List.mem_append, ih]
   constructor
   ·rintro (h | ⟨v, h1, h2, h3⟩)
    ·exact ⟨w, List.suffix_refl _, hw, h⟩
    ·exact ⟨v, h1.trans (Ba E _ w (Nat.le_refl _)), h2, h3⟩
   ·rintro ⟨v, h1, h2, h3⟩
    by_cases hv : v = w
    ·left; rw [← hv]; exact h3
    ·right; exact ⟨v, Ey P E h0 _ w (Nat.le_refl _) v h1 h2 (fun h => by rw [h] at h3; cases h3) hv, h2, h3⟩
theorem zL (P : Pre sg) (E : Nm → List Nat) (h0 : E [] = []) (hE : ∀ w, (E w).Nodup) (hd : ∀ v w j, j ∈ E v → j ∈ E w → v = w) : ∀ (n : Nat) (w : Nm), w.length ≤ n → w ∈ sg → (mQ sg E w).Nodup
 | 0, w, h, hw => by rw [List.length_eq_zero_iff.1 (Nat.le_zero.1 h), uw]; exact List.nodup_nil
 | n + 1, w, h, hw => by
  by_cases hn : w = []
  ·rw [hn, uw]; exact List.nodup_nil
  ·have hl := vV (sg := sg) E _ w (Nat.le_refl _) hn
   have hm := Bf P E _ w (Nat.le_refl _)
   rw [zt E hn]
   refine List.nodup_append.2 ⟨hE w, zL P E h0 hE hd n _ (by omega) hm, fun a ha b hb hab => ?_⟩
   subst hab
   obtain ⟨v, h1, h2, h3⟩ := (wu P E h0 a _ _ (Nat.le_refl _) hm).1 hb
   have := hd _ _ _ ha h3
   subst this
   have := h1.length_le
   omega
end
end Go.Proofs.YtjmfpeiidlpngaaGreatDoor.Au
namespace Go.Proofs.YtjmfpeiidlpngaaGreatDoor.Au
set_option linter.unusedSimpArgs false
set_option linter.unusedVariables false
set_option maxRecDepth 20000
open Go
open Go.IntKind (wrap)
theorem slS (l : Nm) {a b : Int} (i j : Nat) (ha : a = i) (hb : b = j) (h1 : i ≤ j) (h2 : j ≤ l.length) {K : ByteArray → Prop} (hk : K (bs ((l.drop i).take (j - i)))) : mC (bs l) (some a) (some b) K := by
 subst ha hb
 refine ⟨by omega, by omega, by rw [aX]; omega, ?_⟩
 rw [Int.toNat_natCast, Int.toNat_natCast, uE]; exact hk
theorem slF (l : Nm) {a : Int} (i : Nat) (ha : a = i) (h2 : i ≤ l.length) {K : ByteArray → Prop} (hk : K (bs (l.drop i))) : mC (bs l) (some a) none K := by
 subst ha
 refine ⟨by omega, by rw [aX]; omega, ?_⟩
 rw [Int.toNat_natCast, aX, Ln]; exact hk
theorem slT (l : Nm) {b : Int} (j : Nat) (hb : b = j) (h2 : j ≤ l.length) {K : ByteArray → Prop} (hk : K (bs (l.take j))) : mC (bs l) none (some b) K := by
 subst hb
 refine ⟨by omega, by rw [aX]; omega, ?_⟩
 rw [Int.toNat_natCast, Lz]; exact hk
def bA (b : UInt8) : Int := b.toNat
theorem jJ (b : UInt8) : 0 ≤ bA b ∧ bA b ≤ 255 := by unfold bA; have := b.toNat_lt; omega
theorem ng {u v : UInt8} (h : bA u = bA v) : u = v := by apply UInt8.toNat_inj.1; unfold bA at h; omega
theorem ixS (l : Nm) {n : Int} (i : Nat) (hn : n = i) (hi : i < l.length) {K : Int → Prop} (hk : K (bA l[i])) : jw (bs l) n K := by
 subst hn
 refine ⟨by omega, by rw [aX]; omega, ?_⟩
 have : bAt (bs l) (i : Int) = bA l[i] := by
  unfold bAt bA bs
  simp [hi]
 rw [this]; exact hk
def bV (b : UInt8) : List Value := [.int .u8 b.toNat]
theorem rF (b : UInt8) : (bV b).length = 1 := rfl
theorem wj (l : Nm) : l.flatMap bV = dW l := by
 induction l with
 | nil => rfl
 | cons a l ih => rw [List.flatMap_cons, ih]; rfl
theorem Ei : gU Tryz.prog aL gK Tryz.t5 (.int .u8 0) := ⟨Tryz.underlying98, by kernel_rfl, by kernel_rfl, by kernel_rfl, by decide⟩
theorem u3 [Gh] {h : aB} {p : Option Addr} {c : Nat} {l : Nm} (R : Row 1 bV h p c l) {K : Value → aB → Prop} (hk : K (.string (bs l)) h) : kA Tryz.prog aL bW (.slice p l.length c) h K := by
 have o := R.own
 rw [wj] at o
 exact rm Tryz.underlying98 Tryz.underlying9 Tryz.underlying5 (l := l) rfl (fun ad hd => by subst hd; exact o.cells) (fun hd => by subst hd; have := o.1; simpa [dW] using this) hk
theorem MB [Gh] {h : aB} {p : Option Addr} {cap : Nat} {L : Nm} (R : Row 1 bV h p cap L) {e : UInt8} {b : Addr} (ob : Own h b (bV e) gK) (hl : L.length ≤ 2 ^ 29) {K : Value → aB → Prop}
  (hk : ∀ p' cap' h', Row 1 bV h' p' cap' (L ++ [e]) → Fr (InA p) h h' → (∀ b, InA p' b → InA p b ∨ h.size ≤ b) → K (.slice p' (L ++ [e]).length cap') h') :
  cQ Tryz.prog .append #[aL, aL] aL #[false, false] #[.slice p L.length cap, .slice (some b) 1 1] h K :=
 R.app Ei Tryz.underlying98 (by intro k e; cases e) (by kernel_rfl) (by decide +kernel) rF (fun _ => rfl) ob 1 hl hk
def xF (c : Int) : Int := if 65 ≤ c ∧ c ≤ 90 then c + 32 else c
def fK (b : UInt8) : UInt8 := if 65 ≤ b ∧ b ≤ 90 then b + 32 else b
def cF (l : Nm) : Nm := l.map fK
theorem wrb {x : Int} (h1 : 0 ≤ x) (h2 : x ≤ 255) : wrap .u8 x = x := wr8 h1 h2
theorem qN (b : UInt8) : bA (fK b) = xF (bA b) := by
 have hb := jJ b
 unfold fK xF bA at *
 have e : (65 ≤ b ∧ b ≤ 90) ↔ (65 ≤ (b.toNat : Int) ∧ (b.toNat : Int) ≤ 90) := by
  rw [UInt8.le_iff_toNat_le, UInt8.le_iff_toNat_le]
  show (65 ≤ b.toNat ∧ b.toNat ≤ 90) ↔ _
  omega
 by_cases h : 65 ≤ b ∧ b ≤ 90
 ·rw [if_pos h, if_pos (e.1 h)]
  have h2 := (e.1 h).2
  rw [UInt8.toNat_add]
  show (((b.toNat + 32) % 256 : Nat) : Int) = _
  omega
 ·rw [if_neg h, if_neg fun h' => h (e.2 h')]
theorem AE [Gh] (c : Int) (h0 : 0 ≤ c) (h1 : c ≤ 255) {h : aB} {Q : Value → aB → Prop} (hk : Q (.int .u8 (xF c)) h) : aD Tryz.prog ke #[.int .u8 c] h Q := by
 apply xN
 unfold se
 unfold xF at hk
 refine ifD (fun e => ifD (fun e2 => ?_) fun e2 => ?_) fun e => ?_
 ·rw [if_pos ⟨e, e2⟩] at hk
  rw [wrb (x := c + 97) (by omega) (by omega), wrb (by omega) (by omega)]
  have : c + 97 - 65 = c + 32 := by omega
  rw [this]; exact hk
 ·rw [if_neg (by omega)] at hk; exact hk
 ·rw [if_neg (by omega)] at hk; exact hk
theorem Dr {b : UInt8} : bA (fK b) = if 65 ≤ bA b ∧ bA b ≤ 90 then bA b + 32 else bA b := qN b
theorem jR (l : Nm) : (cF l).length = l.length := by unfold cF; simp
theorem J2 [Gh] (l : Nm) (hl : l.length ≤ 2 ^ 28) {h : aB} {Q : Value → aB → Prop} (hk : ∀ h', Fr (fun _ => False) h h' → Q (.string (bs (cF l))) h') : aD Tryz.prog rD #[.string (bs l)] h Q := by
 apply B7
 unfold w6
 refine aU (vs := []) fun t6 h1 f1 e1 o1 => ?_
 have z1 := f1.size
 have R0 : Row 1 bV h1 (some t6) 0 [] := Row.of_own (L := []) rF o1
 refine aH.mk (fun st h' => ∃ (i : Nat), st.2.2.2 = (i : Int) ∧ st.2.1 = (cF (l.take i)).length ∧ i ≤ l.length ∧ Fr (fun _ => False) h h' ∧ Row 1 bV h' st.1 st.2.2.1 (cF (l.take i)) ∧ (∀ b, InA st.1 b → h.size ≤ b)) (fun st _ => l.length - st.2.2.2.toNat)
  ⟨0, rfl, rfl, by omega, f1, R0, fun b hb => by obtain ⟨ad, h1, rfl⟩ := hb; cases h1; omega⟩ ?_
 rintro ⟨a, n, c, j⟩ h2 ⟨i, hj, hn, hi, f2, Ro, ha⟩
 dsimp only at hj hn Ro ha
 subst hj hn
 unfold rj
 dsimp only
 rw [aX]
 have z2 := f2.size
 refine ifD (fun e2 => ?_) fun e2 => ?_
 ·have hlt : i < l.length := by omega
  have hlow : cF (l.take (i + 1)) = cF (l.take i) ++ [fK l[i]] := by
   rw [show l.take (i + 1) = l.take i ++ [l[i]] by rw [List.take_append_getElem]]; unfold cF; rw [List.map_append]; rfl
  have b2 : ∀ {c' : Int} {Kn : (Option Addr) × Nat × Nat × Int → aB → Prop}, c' = bA (fK l[i]) → (∀ p' cap' h', Fr (fun _ => False) h h' → Row 1 bV h' p' cap' (cF (l.take (i + 1))) → (∀ b, InA p' b → h.size ≤ b) → Kn (p', (cF (l.take (i + 1))).length, cap', ((i + 1 : Nat) : Int)) h') → jT (bs l) a (cF (l.take i)).length c (i : Int) c' Q Kn h2 := fun hc hK => by
   subst hc
   unfold jT
   refine aU (vs := bV (fK l[i])) fun b h3 f3 e3 ob => ?_
   have z3 := f3.size
   refine MB (Ro.fr0 f3) ob (by rw [jR, List.length_take]; omega) fun p' c' h4 R4 f4 hn4 => ⟨_, _, _, rfl, ?_⟩
   rw [← hlow] at R4 ⊢
   rw [wr (by omega) (by omega)]
   refine hK p' c' h4 ((f2.trans f3).tr f4 fun b hb hi => by have := ha b hi; omega) R4 fun b hb => ?_
   rcases hn4 b hb with h | h
   ·exact ha b h
   ·omega
  have hb := jJ l[i]
  refine ixS l i rfl hlt ?_
  have go : ∀ p' cap' h', Fr (fun _ => False) h h' → Row 1 bV h' p' cap' (cF (l.take (i + 1))) → (∀ b, InA p' b → h.size ≤ b) → (∃ (k : Nat), ((i + 1 : Nat) : Int) = (k : Int) ∧ (cF (l.take (i + 1))).length = (cF (l.take k)).length ∧ k ≤ l.length ∧ Fr (fun _ => False) h h' ∧ Row 1 bV h' p' cap' (cF (l.take k)) ∧ (∀ b, InA p' b → h.size ≤ b)) ∧ l.length - ((i + 1 : Nat) : Int).toNat < l.length - (i : Int).toNat := fun p' cap' h' f' R' hp' => ⟨⟨i + 1, rfl, rfl, hlt, f', R', hp'⟩, by omega⟩
  refine ifD (fun e3 => ifD (fun e4 => ?_) fun e4 => ?_) fun e3 => ?_
  ·exact b2 (by rw [Dr, if_pos ⟨e3, e4⟩, wr8 (by omega) (by omega)]) go
  ·exact b2 (by rw [Dr, if_neg (by omega)]) go
  ·exact b2 (by rw [Dr, if_neg (by omega)]) go
 ·rw [List.take_of_length_le (by omega)] at Ro ⊢
  exact u3 Ro ⟨_, rfl, hk h2 f2⟩
theorem Jr (l : Nm) (i : Nat) (hi : i < l.length) : (cF (l.take i) ++ l.drop i).set i (fK l[i]) = cF (l.take (i + 1)) ++ l.drop (i + 1) := by
 have hlow : cF (l.take (i + 1)) = cF (l.take i) ++ [fK l[i]] := by
  rw [show l.take (i + 1) = l.take i ++ [l[i]] by rw [List.take_append_getElem]]; unfold cF; rw [List.map_append]; rfl
 have hlen : (cF (l.take i)).length = i := by rw [jR, List.length_take]; omega
 rw [List.set_append_right _ _ (by omega), hlen, Nat.sub_self, List.drop_eq_getElem_cons hi, List.set_cons_zero, hlow]
 simp
theorem LD (l : Nm) (i : Nat) (hi : i < l.length) (h : i < (cF (l.take i) ++ l.drop i).length) : (cF (l.take i) ++ l.drop i)[i] = l[i] := by
 have hlen : (cF (l.take i)).length = i := by rw [jR, List.length_take]; omega
 rw [List.getElem_append_right (by omega), List.getElem_drop]
 congr 1; omega
theorem LL (l : Nm) (i : Nat) (hi : i ≤ l.length) : (cF (l.take i) ++ l.drop i).length = l.length := by rw [List.length_append, jR, List.length_take, List.length_drop]; omega
theorem _root_.Go.Proofs.YtjmfpeiidlpngaaGreatDoor.Row.setB [Gh] {h : aB} {p : Option Addr} {cap : Nat} {L : Nm} (R : Row 1 bV h p cap L) {n : Int} {len : Nat} (i : Nat) (hn : n = i) (hl : len = L.length) (hi : i < L.length) (x : UInt8) {c : Int} (hc : c = bA x) {K : aB → Prop} (hk : ∀ h', Fr (InA p) h h' → Row 1 bV h' p cap (L.set i x) → K h') :
  bO n len (nn p fun a => st1 h (a.add (n.toNat * 1)) (.int .u8 c) K) := by
 subst hc hl
 refine bQ i hn hi ?_
 obtain ⟨ad, hp, _⟩ := R.cellsAt rF (by omega) i hi
 subst hp
 refine aV ?_
 rw [hn, Int.toNat_natCast]
 have := R.set1 rF i hi rfl (j := 0) (by omega) (v := .int .u8 (bA x)) rfl (e' := x) rfl hk
 rw [lY, Nat.add_zero] at this
 exact this
end Go.Proofs.YtjmfpeiidlpngaaGreatDoor.Au
namespace Go.Proofs.YtjmfpeiidlpngaaGreatDoor.Au
set_option linter.unusedSimpArgs false
set_option linter.unusedVariables false
set_option maxRecDepth 20000
open Go
open Go.IntKind (wrap)
structure Pt where
 t : Nm
 nc : Bool
def ptV (p : Pt) : List Value := [.string (bs p.t), .bool p.nc]
def IE (h : aB) (q : Option Addr) (L : List Pt) : Prop := ∀ i (hi : i < L.length), ∃ ad, q = some ad ∧ aY h (ad.add (i * 2)) (ptV L[i])
theorem IE.get {h : aB} {q : Option Addr} {L : List Pt} (S : IE h q L) {n : Int} (i : Nat) (hn : n = i) (hi : i < L.length) {K : Addr → Prop} (hk : ∀ ad, aY h (ad.add (i * 2)) [.string (bs L[i].t), .bool L[i].nc] → K ad) : bO n L.length (nn q fun a => K a) := by
 obtain ⟨ad, rfl, c⟩ := S i hi
 exact bQ i hn hi (aV (hk ad c))
def A7 (s : Nm) (k n : Nat) : Nm := (s.drop (n - k)).take k
def vl (p : Pt) (s : Nm) (n : Nat) : Bool :=
 decide (p.t ≠ []) && (decide (p.t.length ≤ n) && (if p.nc = true then decide (cF (A7 s p.t.length n) = cF p.t) else decide (A7 s p.t.length n = p.t)))
abbrev Hit := Nat × Nat
def BE (x : Hit) : List Value := [.int .i64 x.1, .int .i64 x.2]
theorem Fi (x : Hit) : (BE x).length = 2 := rfl
theorem Md : gU Tryz.prog kr zn Tryz.t174 (.agg #[.int .i64 0, .int .i64 0]) :=
 ⟨Tryz.underlying108, by kernel_rfl, by kernel_rfl, by kernel_rfl, by decide +kernel⟩
theorem Mv [Gh] {h : aB} {p : Option Addr} {cap : Nat} {L : List Hit} (R : Row 2 BE h p cap L) {e : Hit} {b : Addr} {T : TypeId} (ob : Own h b (BE e) T) (hl : L.length ≤ 2 ^ 29) {K : Value → aB → Prop}
  (hk : ∀ p' cap' h', Row 2 BE h' p' cap' (L ++ [e]) → Fr (InA p) h h' → (∀ b, InA p' b → InA p b ∨ h.size ≤ b) → K (.slice p' (L ++ [e]).length cap') h') :
  cQ Tryz.prog .append #[kr, kr] kr #[false, false] #[.slice p L.length cap, .slice (some b) 1 1] h K :=
 R.app Md Tryz.underlying108 (by intro k e; cases e) (by kernel_rfl) (by decide +kernel) Fi (fun _ => rfl) ob 1 hl hk
def hA (L : List Pt) (s : Nm) (n i : Nat) : List Hit := (List.range i).flatMap fun j => if vl (L.getD j ⟨[], false⟩) s n = true then [(j, n)] else []
theorem Lp (L : List Pt) (s : Nm) (n i : Nat) : hA L s n (i + 1) = hA L s n i ++ (if vl (L.getD i ⟨[], false⟩) s n = true then [(i, n)] else []) := by
 unfold hA
 rw [List.range_succ, List.flatMap_append, List.flatMap_cons, List.flatMap_nil, List.append_nil]
theorem Jo (L : List Pt) (s : Nm) (n : Nat) : ∀ i, (hA L s n i).length ≤ i
 | 0 => Nat.le_refl _
 | i + 1 => by
  have ih := Jo L s n i
  rw [Lp, List.length_append]
  split
  ·rw [List.length_singleton]; omega
  ·rw [List.length_nil]; omega
def qd (L : List Pt) (s : Nm) (fm k : Nat) : List Hit := (List.range k).flatMap fun m => hA L s (fm + 1 + m) L.length
theorem Db (L : List Pt) (s : Nm) (fm k : Nat) : qd L s fm (k + 1) = qd L s fm k ++ hA L s (fm + 1 + k) L.length := by
 unfold qd
 rw [List.range_succ, List.flatMap_append]; simp
theorem xW (L : List Pt) (s : Nm) (fm : Nat) : ∀ k, (qd L s fm k).length ≤ k * L.length
 | 0 => by simp [qd]
 | k + 1 => by
  have ih := xW L s fm k
  have h2 := Jo L s (fm + 1 + k) L.length
  rw [Db, List.length_append, Nat.succ_mul]; omega
end Go.Proofs.YtjmfpeiidlpngaaGreatDoor.Au
namespace Go.Proofs.YtjmfpeiidlpngaaGreatDoor.Au
set_option linter.unusedSimpArgs false
set_option linter.unusedVariables false
set_option maxRecDepth 20000
open Go
open Go.IntKind (wrap)
theorem CM (s : Nm) (n : Nat) : (cF s).take n = cF (s.take n) := by unfold cF; rw [List.map_take]
end Go.Proofs.YtjmfpeiidlpngaaGreatDoor.Au
namespace Go.Proofs.YtjmfpeiidlpngaaGreatDoor
set_option linter.unusedSimpArgs false
set_option linter.unusedVariables false
set_option maxRecDepth 20000
open Go
structure aK where
 V6 : Bool
 Hi : Int
 Lo : Int
def aK.vals (r : aK) : List Go.Value := [.bool r.V6, .int .u64 r.Hi, .int .u64 r.Lo]
structure aK.ok (h : aB) (r : aK) : Prop where
 k0 : bOk h r.V6
 k1 : (kOk .u64) h r.Hi
 k2 : (kOk .u64) h r.Lo
theorem aK.ok_fr (h h' : aB) (r : aK) (f : Fr (fun _ => False) h h') (o : aK.ok h r) : aK.ok h' r :=
 ⟨o.k0, o.k1, o.k2⟩
section
open Go.ChangeShapes Go.WideShapes Go.ChangeAt Go.RowKit
variable {H : Type} {enc : TypeId × Go.Value → H} {w : World}
set_option maxRecDepth 100000 in
theorem aK.op : bN enc Tryz.prog w cI aK.vals aK.ok := fun fuel cs x h => by
 obtain ⟨xs, n, rfl, hx, hl, hxl, hf⟩ := DataW.trod_struct Tryz.underlying25 h
 rw [show Tryz.prog.cellsOf 25 = 3 from by kernel_rfl] at hl
 match xs, hxl, cs, hl with
 | [y0, y1, y2], _, [v0, v1, v2], _ =>
  have g0 : DataW.trod enc Tryz.prog w 0 (fun _ => true) true n 4 (([v0, v1, v2].drop 0).take (Tryz.prog.cellsOf 4)) = some y0 := hf 0 _ rfl
  rw [show Tryz.prog.cellsOf 4 = 1 from by kernel_rfl] at g0
  obtain ⟨z0, e0, o0⟩ := ((nW Tryz.underlying4) : bN enc Tryz.prog w 4 (fun n : Bool => [Go.Value.bool n]) bOk) _ _ _ g0
  have g1 : DataW.trod enc Tryz.prog w 0 (fun _ => true) true n 23 (([v0, v1, v2].drop 1).take (Tryz.prog.cellsOf 23)) = some y1 := hf 1 _ rfl
  rw [show Tryz.prog.cellsOf 23 = 1 from by kernel_rfl] at g1
  obtain ⟨z1, e1, o1⟩ := ((dZ Tryz.underlying23) : bN enc Tryz.prog w 23 (fun n : Int => [Go.Value.int .u64 n]) (kOk .u64)) _ _ _ g1
  have g2 : DataW.trod enc Tryz.prog w 0 (fun _ => true) true n 23 (([v0, v1, v2].drop 2).take (Tryz.prog.cellsOf 23)) = some y2 := hf 2 _ rfl
  rw [show Tryz.prog.cellsOf 23 = 1 from by kernel_rfl] at g2
  obtain ⟨z2, e2, o2⟩ := ((dZ Tryz.underlying23) : bN enc Tryz.prog w 23 (fun n : Int => [Go.Value.int .u64 n]) (kOk .u64)) _ _ _ g2
  obtain rfl := List.head_eq_of_cons_eq e0
  obtain rfl := List.head_eq_of_cons_eq e1
  obtain rfl := List.head_eq_of_cons_eq e2
  exact ⟨⟨z0, z1, z2⟩, rfl, ⟨o0, o1, o2⟩⟩
end
structure bS where
 Addr : aK
 Bits : Int
def bS.vals (r : bS) : List Go.Value := [.bool r.Addr.V6, .int .u64 r.Addr.Hi, .int .u64 r.Addr.Lo, .int .i64 r.Bits]
structure bS.ok (h : aB) (r : bS) : Prop where
 k0 : aK.ok h r.Addr
 k1 : (kOk .i64) h r.Bits
theorem bS.ok_fr (h h' : aB) (r : bS) (f : Fr (fun _ => False) h h') (o : bS.ok h r) : bS.ok h' r :=
 ⟨aK.ok_fr _ _ _ f o.k0, o.k1⟩
section
open Go.ChangeShapes Go.WideShapes Go.ChangeAt Go.RowKit
variable {H : Type} {enc : TypeId × Go.Value → H} {w : World}
set_option maxRecDepth 100000 in
theorem bS.op : bN enc Tryz.prog w yo bS.vals bS.ok := fun fuel cs x h => by
 obtain ⟨xs, n, rfl, hx, hl, hxl, hf⟩ := DataW.trod_struct Tryz.underlying137 h
 rw [show Tryz.prog.cellsOf 137 = 4 from by kernel_rfl] at hl
 match xs, hxl, cs, hl with
 | [y0, y1], _, [v0, v1, v2, v3], _ =>
  have g0 : DataW.trod enc Tryz.prog w 0 (fun _ => true) true n 25 (([v0, v1, v2, v3].drop 0).take (Tryz.prog.cellsOf 25)) = some y0 := hf 0 _ rfl
  rw [show Tryz.prog.cellsOf 25 = 3 from by kernel_rfl] at g0
  obtain ⟨z0, e0, o0⟩ := (aK.op : bN enc Tryz.prog w 25 aK.vals aK.ok) _ _ _ g0
  have g1 : DataW.trod enc Tryz.prog w 0 (fun _ => true) true n 3 (([v0, v1, v2, v3].drop 3).take (Tryz.prog.cellsOf 3)) = some y1 := hf 1 _ rfl
  rw [show Tryz.prog.cellsOf 3 = 1 from by kernel_rfl] at g1
  obtain ⟨z1, e1, o1⟩ := ((dZ Tryz.underlying3) : bN enc Tryz.prog w 3 (fun n : Int => [Go.Value.int .i64 n]) (kOk .i64)) _ _ _ g1
  have e0 : [v0, v1, v2] = aK.vals z0 := e0
  simp only [aK.vals, List.cons.injEq, and_true] at e0
  obtain ⟨rfl, rfl, rfl⟩ := e0
  obtain rfl := List.head_eq_of_cons_eq e1
  exact ⟨⟨z0, z1⟩, rfl, ⟨o0, o1⟩⟩
end
structure aN where
 Not : Bool
 Var : List UInt8
 Prefix : bS
def aN.vals (r : aN) : List Go.Value := [.bool r.Not, .string (bs r.Var), .bool r.Prefix.Addr.V6, .int .u64 r.Prefix.Addr.Hi, .int .u64 r.Prefix.Addr.Lo, .int .i64 r.Prefix.Bits]
structure aN.ok (h : aB) (r : aN) : Prop where
 k0 : bOk h r.Not
 k1 : sOk h r.Var
 k2 : bS.ok h r.Prefix
theorem aN.ok_fr (h h' : aB) (r : aN) (f : Fr (fun _ => False) h h') (o : aN.ok h r) : aN.ok h' r :=
 ⟨o.k0, o.k1, bS.ok_fr _ _ _ f o.k2⟩
section
open Go.ChangeShapes Go.WideShapes Go.ChangeAt Go.RowKit
variable {H : Type} {enc : TypeId × Go.Value → H} {w : World}
set_option maxRecDepth 100000 in
theorem aN.op : bN enc Tryz.prog w rr aN.vals aN.ok := fun fuel cs x h => by
 obtain ⟨xs, n, rfl, hx, hl, hxl, hf⟩ := DataW.trod_struct Tryz.underlying139 h
 rw [show Tryz.prog.cellsOf 139 = 6 from by kernel_rfl] at hl
 match xs, hxl, cs, hl with
 | [y0, y1, y2], _, [v0, v1, v2, v3, v4, v5], _ =>
  have g0 : DataW.trod enc Tryz.prog w 0 (fun _ => true) true n 4 (([v0, v1, v2, v3, v4, v5].drop 0).take (Tryz.prog.cellsOf 4)) = some y0 := hf 0 _ rfl
  rw [show Tryz.prog.cellsOf 4 = 1 from by kernel_rfl] at g0
  obtain ⟨z0, e0, o0⟩ := ((nW Tryz.underlying4) : bN enc Tryz.prog w 4 (fun n : Bool => [Go.Value.bool n]) bOk) _ _ _ g0
  have g1 : DataW.trod enc Tryz.prog w 0 (fun _ => true) true n 9 (([v0, v1, v2, v3, v4, v5].drop 1).take (Tryz.prog.cellsOf 9)) = some y1 := hf 1 _ rfl
  rw [show Tryz.prog.cellsOf 9 = 1 from by kernel_rfl] at g1
  obtain ⟨z1, e1, o1⟩ := ((zv Tryz.underlying9) : bN enc Tryz.prog w 9 (fun l : List UInt8 => [Go.Value.string (bs l)]) sOk) _ _ _ g1
  have g2 : DataW.trod enc Tryz.prog w 0 (fun _ => true) true n 137 (([v0, v1, v2, v3, v4, v5].drop 2).take (Tryz.prog.cellsOf 137)) = some y2 := hf 2 _ rfl
  rw [show Tryz.prog.cellsOf 137 = 4 from by kernel_rfl] at g2
  obtain ⟨z2, e2, o2⟩ := (bS.op : bN enc Tryz.prog w 137 bS.vals bS.ok) _ _ _ g2
  obtain rfl := List.head_eq_of_cons_eq e0
  obtain rfl := List.head_eq_of_cons_eq e1
  have e2 : [v2, v3, v4, v5] = bS.vals z2 := e2
  simp only [bS.vals, List.cons.injEq, and_true] at e2
  obtain ⟨rfl, rfl, rfl, rfl⟩ := e2
  exact ⟨⟨z0, z1, z2⟩, rfl, ⟨o0, o1, o2⟩⟩
end
structure aM where
 Not : Bool
 Var : List UInt8
 Lo : Int
 Hi : Int
def aM.vals (r : aM) : List Go.Value := [.bool r.Not, .string (bs r.Var), .int .i64 r.Lo, .int .i64 r.Hi]
structure aM.ok (h : aB) (r : aM) : Prop where
 k0 : bOk h r.Not
 k1 : sOk h r.Var
 k2 : (kOk .i64) h r.Lo
 k3 : (kOk .i64) h r.Hi
theorem aM.ok_fr (h h' : aB) (r : aM) (f : Fr (fun _ => False) h h') (o : aM.ok h r) : aM.ok h' r :=
 ⟨o.k0, o.k1, o.k2, o.k3⟩
section
open Go.ChangeShapes Go.WideShapes Go.ChangeAt Go.RowKit
variable {H : Type} {enc : TypeId × Go.Value → H} {w : World}
set_option maxRecDepth 100000 in
theorem aM.op : bN enc Tryz.prog w nj aM.vals aM.ok := fun fuel cs x h => by
 obtain ⟨xs, n, rfl, hx, hl, hxl, hf⟩ := DataW.trod_struct Tryz.underlying142 h
 rw [show Tryz.prog.cellsOf 142 = 4 from by kernel_rfl] at hl
 match xs, hxl, cs, hl with
 | [y0, y1, y2, y3], _, [v0, v1, v2, v3], _ =>
  have g0 : DataW.trod enc Tryz.prog w 0 (fun _ => true) true n 4 (([v0, v1, v2, v3].drop 0).take (Tryz.prog.cellsOf 4)) = some y0 := hf 0 _ rfl
  rw [show Tryz.prog.cellsOf 4 = 1 from by kernel_rfl] at g0
  obtain ⟨z0, e0, o0⟩ := ((nW Tryz.underlying4) : bN enc Tryz.prog w 4 (fun n : Bool => [Go.Value.bool n]) bOk) _ _ _ g0
  have g1 : DataW.trod enc Tryz.prog w 0 (fun _ => true) true n 9 (([v0, v1, v2, v3].drop 1).take (Tryz.prog.cellsOf 9)) = some y1 := hf 1 _ rfl
  rw [show Tryz.prog.cellsOf 9 = 1 from by kernel_rfl] at g1
  obtain ⟨z1, e1, o1⟩ := ((zv Tryz.underlying9) : bN enc Tryz.prog w 9 (fun l : List UInt8 => [Go.Value.string (bs l)]) sOk) _ _ _ g1
  have g2 : DataW.trod enc Tryz.prog w 0 (fun _ => true) true n 3 (([v0, v1, v2, v3].drop 2).take (Tryz.prog.cellsOf 3)) = some y2 := hf 2 _ rfl
  rw [show Tryz.prog.cellsOf 3 = 1 from by kernel_rfl] at g2
  obtain ⟨z2, e2, o2⟩ := ((dZ Tryz.underlying3) : bN enc Tryz.prog w 3 (fun n : Int => [Go.Value.int .i64 n]) (kOk .i64)) _ _ _ g2
  have g3 : DataW.trod enc Tryz.prog w 0 (fun _ => true) true n 3 (([v0, v1, v2, v3].drop 3).take (Tryz.prog.cellsOf 3)) = some y3 := hf 3 _ rfl
  rw [show Tryz.prog.cellsOf 3 = 1 from by kernel_rfl] at g3
  obtain ⟨z3, e3, o3⟩ := ((dZ Tryz.underlying3) : bN enc Tryz.prog w 3 (fun n : Int => [Go.Value.int .i64 n]) (kOk .i64)) _ _ _ g3
  obtain rfl := List.head_eq_of_cons_eq e0
  obtain rfl := List.head_eq_of_cons_eq e1
  obtain rfl := List.head_eq_of_cons_eq e2
  obtain rfl := List.head_eq_of_cons_eq e3
  exact ⟨⟨z0, z1, z2, z3⟩, rfl, ⟨o0, o1, o2, o3⟩⟩
end
structure aI where
 Pattern : List UInt8
 Nocase : Bool
 Not : Bool
 Relative : Bool
 Offset : Int
 Depth : Int
 Fast : Bool
def aI.vals (r : aI) : List Go.Value := [.string (bs r.Pattern), .bool r.Nocase, .bool r.Not, .bool r.Relative, .int .i64 r.Offset, .int .i64 r.Depth, .bool r.Fast]
structure aI.ok (h : aB) (r : aI) : Prop where
 k0 : sOk h r.Pattern
 k1 : bOk h r.Nocase
 k2 : bOk h r.Not
 k3 : bOk h r.Relative
 k4 : (kOk .i64) h r.Offset
 k5 : (kOk .i64) h r.Depth
 k6 : bOk h r.Fast
theorem aI.ok_fr (h h' : aB) (r : aI) (f : Fr (fun _ => False) h h') (o : aI.ok h r) : aI.ok h' r :=
 ⟨o.k0, o.k1, o.k2, o.k3, o.k4, o.k5, o.k6⟩
section
open Go.ChangeShapes Go.WideShapes Go.ChangeAt Go.RowKit
variable {H : Type} {enc : TypeId × Go.Value → H} {w : World}
set_option maxRecDepth 100000 in
theorem aI.op : bN enc Tryz.prog w ei aI.vals aI.ok := fun fuel cs x h => by
 obtain ⟨xs, n, rfl, hx, hl, hxl, hf⟩ := DataW.trod_struct Tryz.underlying133 h
 rw [show Tryz.prog.cellsOf 133 = 7 from by kernel_rfl] at hl
 match xs, hxl, cs, hl with
 | [y0, y1, y2, y3, y4, y5, y6], _, [v0, v1, v2, v3, v4, v5, v6], _ =>
  have g0 : DataW.trod enc Tryz.prog w 0 (fun _ => true) true n 9 (([v0, v1, v2, v3, v4, v5, v6].drop 0).take (Tryz.prog.cellsOf 9)) = some y0 := hf 0 _ rfl
  rw [show Tryz.prog.cellsOf 9 = 1 from by kernel_rfl] at g0
  obtain ⟨z0, e0, o0⟩ := ((zv Tryz.underlying9) : bN enc Tryz.prog w 9 (fun l : List UInt8 => [Go.Value.string (bs l)]) sOk) _ _ _ g0
  have g1 : DataW.trod enc Tryz.prog w 0 (fun _ => true) true n 4 (([v0, v1, v2, v3, v4, v5, v6].drop 1).take (Tryz.prog.cellsOf 4)) = some y1 := hf 1 _ rfl
  rw [show Tryz.prog.cellsOf 4 = 1 from by kernel_rfl] at g1
  obtain ⟨z1, e1, o1⟩ := ((nW Tryz.underlying4) : bN enc Tryz.prog w 4 (fun n : Bool => [Go.Value.bool n]) bOk) _ _ _ g1
  have g2 : DataW.trod enc Tryz.prog w 0 (fun _ => true) true n 4 (([v0, v1, v2, v3, v4, v5, v6].drop 2).take (Tryz.prog.cellsOf 4)) = some y2 := hf 2 _ rfl
  rw [show Tryz.prog.cellsOf 4 = 1 from by kernel_rfl] at g2
  obtain ⟨z2, e2, o2⟩ := ((nW Tryz.underlying4) : bN enc Tryz.prog w 4 (fun n : Bool => [Go.Value.bool n]) bOk) _ _ _ g2
  have g3 : DataW.trod enc Tryz.prog w 0 (fun _ => true) true n 4 (([v0, v1, v2, v3, v4, v5, v6].drop 3).take (Tryz.prog.cellsOf 4)) = some y3 := hf 3 _ rfl
  rw [show Tryz.prog.cellsOf 4 = 1 from by kernel_rfl] at g3
  obtain ⟨z3, e3, o3⟩ := ((nW Tryz.underlying4) : bN enc Tryz.prog w 4 (fun n : Bool => [Go.Value.bool n]) bOk) _ _ _ g3
  have g4 : DataW.trod enc Tryz.prog w 0 (fun _ => true) true n 3 (([v0, v1, v2, v3, v4, v5, v6].drop 4).take (Tryz.prog.cellsOf 3)) = some y4 := hf 4 _ rfl
  rw [show Tryz.prog.cellsOf 3 = 1 from by kernel_rfl] at g4
  obtain ⟨z4, e4, o4⟩ := ((dZ Tryz.underlying3) : bN enc Tryz.prog w 3 (fun n : Int => [Go.Value.int .i64 n]) (kOk .i64)) _ _ _ g4
  have g5 : DataW.trod enc Tryz.prog w 0 (fun _ => true) true n 3 (([v0, v1, v2, v3, v4, v5, v6].drop 5).take (Tryz.prog.cellsOf 3)) = some y5 := hf 5 _ rfl
  rw [show Tryz.prog.cellsOf 3 = 1 from by kernel_rfl] at g5
  obtain ⟨z5, e5, o5⟩ := ((dZ Tryz.underlying3) : bN enc Tryz.prog w 3 (fun n : Int => [Go.Value.int .i64 n]) (kOk .i64)) _ _ _ g5
  have g6 : DataW.trod enc Tryz.prog w 0 (fun _ => true) true n 4 (([v0, v1, v2, v3, v4, v5, v6].drop 6).take (Tryz.prog.cellsOf 4)) = some y6 := hf 6 _ rfl
  rw [show Tryz.prog.cellsOf 4 = 1 from by kernel_rfl] at g6
  obtain ⟨z6, e6, o6⟩ := ((nW Tryz.underlying4) : bN enc Tryz.prog w 4 (fun n : Bool => [Go.Value.bool n]) bOk) _ _ _ g6
  obtain rfl := List.head_eq_of_cons_eq e0
  obtain rfl := List.head_eq_of_cons_eq e1
  obtain rfl := List.head_eq_of_cons_eq e2
  obtain rfl := List.head_eq_of_cons_eq e3
  obtain rfl := List.head_eq_of_cons_eq e4
  obtain rfl := List.head_eq_of_cons_eq e5
  obtain rfl := List.head_eq_of_cons_eq e6
  exact ⟨⟨z0, z1, z2, z3, z4, z5, z6⟩, rfl, ⟨o0, o1, o2, o3, o4, o5, o6⟩⟩
end
structure bL where
 Op : Int
 Size : Int
 Value : Int
 Offset : Int
 Relative : Bool
 Little : Bool
 Not : Bool
def bL.vals (r : bL) : List Go.Value := [.int .i64 r.Op, .int .i64 r.Size, .int .i64 r.Value, .int .i64 r.Offset, .bool r.Relative, .bool r.Little, .bool r.Not]
structure bL.ok (h : aB) (r : bL) : Prop where
 k0 : (kOk .i64) h r.Op
 k1 : (kOk .i64) h r.Size
 k2 : (kOk .i64) h r.Value
 k3 : (kOk .i64) h r.Offset
 k4 : bOk h r.Relative
 k5 : bOk h r.Little
 k6 : bOk h r.Not
theorem bL.ok_fr (h h' : aB) (r : bL) (f : Fr (fun _ => False) h h') (o : bL.ok h r) : bL.ok h' r :=
 ⟨o.k0, o.k1, o.k2, o.k3, o.k4, o.k5, o.k6⟩
section
open Go.ChangeShapes Go.WideShapes Go.ChangeAt Go.RowKit
variable {H : Type} {enc : TypeId × Go.Value → H} {w : World}
set_option maxRecDepth 100000 in
theorem bL.op : bN enc Tryz.prog w uq bL.vals bL.ok := fun fuel cs x h => by
 obtain ⟨xs, n, rfl, hx, hl, hxl, hf⟩ := DataW.trod_struct Tryz.underlying146 h
 rw [show Tryz.prog.cellsOf 146 = 7 from by kernel_rfl] at hl
 match xs, hxl, cs, hl with
 | [y0, y1, y2, y3, y4, y5, y6], _, [v0, v1, v2, v3, v4, v5, v6], _ =>
  have g0 : DataW.trod enc Tryz.prog w 0 (fun _ => true) true n 3 (([v0, v1, v2, v3, v4, v5, v6].drop 0).take (Tryz.prog.cellsOf 3)) = some y0 := hf 0 _ rfl
  rw [show Tryz.prog.cellsOf 3 = 1 from by kernel_rfl] at g0
  obtain ⟨z0, e0, o0⟩ := ((dZ Tryz.underlying3) : bN enc Tryz.prog w 3 (fun n : Int => [Go.Value.int .i64 n]) (kOk .i64)) _ _ _ g0
  have g1 : DataW.trod enc Tryz.prog w 0 (fun _ => true) true n 3 (([v0, v1, v2, v3, v4, v5, v6].drop 1).take (Tryz.prog.cellsOf 3)) = some y1 := hf 1 _ rfl
  rw [show Tryz.prog.cellsOf 3 = 1 from by kernel_rfl] at g1
  obtain ⟨z1, e1, o1⟩ := ((dZ Tryz.underlying3) : bN enc Tryz.prog w 3 (fun n : Int => [Go.Value.int .i64 n]) (kOk .i64)) _ _ _ g1
  have g2 : DataW.trod enc Tryz.prog w 0 (fun _ => true) true n 3 (([v0, v1, v2, v3, v4, v5, v6].drop 2).take (Tryz.prog.cellsOf 3)) = some y2 := hf 2 _ rfl
  rw [show Tryz.prog.cellsOf 3 = 1 from by kernel_rfl] at g2
  obtain ⟨z2, e2, o2⟩ := ((dZ Tryz.underlying3) : bN enc Tryz.prog w 3 (fun n : Int => [Go.Value.int .i64 n]) (kOk .i64)) _ _ _ g2
  have g3 : DataW.trod enc Tryz.prog w 0 (fun _ => true) true n 3 (([v0, v1, v2, v3, v4, v5, v6].drop 3).take (Tryz.prog.cellsOf 3)) = some y3 := hf 3 _ rfl
  rw [show Tryz.prog.cellsOf 3 = 1 from by kernel_rfl] at g3
  obtain ⟨z3, e3, o3⟩ := ((dZ Tryz.underlying3) : bN enc Tryz.prog w 3 (fun n : Int => [Go.Value.int .i64 n]) (kOk .i64)) _ _ _ g3
  have g4 : DataW.trod enc Tryz.prog w 0 (fun _ => true) true n 4 (([v0, v1, v2, v3, v4, v5, v6].drop 4).take (Tryz.prog.cellsOf 4)) = some y4 := hf 4 _ rfl
  rw [show Tryz.prog.cellsOf 4 = 1 from by kernel_rfl] at g4
  obtain ⟨z4, e4, o4⟩ := ((nW Tryz.underlying4) : bN enc Tryz.prog w 4 (fun n : Bool => [Go.Value.bool n]) bOk) _ _ _ g4
  have g5 : DataW.trod enc Tryz.prog w 0 (fun _ => true) true n 4 (([v0, v1, v2, v3, v4, v5, v6].drop 5).take (Tryz.prog.cellsOf 4)) = some y5 := hf 5 _ rfl
  rw [show Tryz.prog.cellsOf 4 = 1 from by kernel_rfl] at g5
  obtain ⟨z5, e5, o5⟩ := ((nW Tryz.underlying4) : bN enc Tryz.prog w 4 (fun n : Bool => [Go.Value.bool n]) bOk) _ _ _ g5
  have g6 : DataW.trod enc Tryz.prog w 0 (fun _ => true) true n 4 (([v0, v1, v2, v3, v4, v5, v6].drop 6).take (Tryz.prog.cellsOf 4)) = some y6 := hf 6 _ rfl
  rw [show Tryz.prog.cellsOf 4 = 1 from by kernel_rfl] at g6
  obtain ⟨z6, e6, o6⟩ := ((nW Tryz.underlying4) : bN enc Tryz.prog w 4 (fun n : Bool => [Go.Value.bool n]) bOk) _ _ _ g6
  obtain rfl := List.head_eq_of_cons_eq e0
  obtain rfl := List.head_eq_of_cons_eq e1
  obtain rfl := List.head_eq_of_cons_eq e2
  obtain rfl := List.head_eq_of_cons_eq e3
  obtain rfl := List.head_eq_of_cons_eq e4
  obtain rfl := List.head_eq_of_cons_eq e5
  obtain rfl := List.head_eq_of_cons_eq e6
  exact ⟨⟨z0, z1, z2, z3, z4, z5, z6⟩, rfl, ⟨o0, o1, o2, o3, o4, o5, o6⟩⟩
end
structure aZ where
 Op : Int
 Name : List UInt8
def aZ.vals (r : aZ) : List Go.Value := [.int .i64 r.Op, .string (bs r.Name)]
structure aZ.ok (h : aB) (r : aZ) : Prop where
 k0 : (kOk .i64) h r.Op
 k1 : sOk h r.Name
theorem aZ.ok_fr (h h' : aB) (r : aZ) (f : Fr (fun _ => False) h h') (o : aZ.ok h r) : aZ.ok h' r :=
 ⟨o.k0, o.k1⟩
section
open Go.ChangeShapes Go.WideShapes Go.ChangeAt Go.RowKit
variable {H : Type} {enc : TypeId × Go.Value → H} {w : World}
set_option maxRecDepth 100000 in
theorem aZ.op : bN enc Tryz.prog w tY aZ.vals aZ.ok := fun fuel cs x h => by
 obtain ⟨xs, n, rfl, hx, hl, hxl, hf⟩ := DataW.trod_struct Tryz.underlying149 h
 rw [show Tryz.prog.cellsOf 149 = 2 from by kernel_rfl] at hl
 match xs, hxl, cs, hl with
 | [y0, y1], _, [v0, v1], _ =>
  have g0 : DataW.trod enc Tryz.prog w 0 (fun _ => true) true n 3 (([v0, v1].drop 0).take (Tryz.prog.cellsOf 3)) = some y0 := hf 0 _ rfl
  rw [show Tryz.prog.cellsOf 3 = 1 from by kernel_rfl] at g0
  obtain ⟨z0, e0, o0⟩ := ((dZ Tryz.underlying3) : bN enc Tryz.prog w 3 (fun n : Int => [Go.Value.int .i64 n]) (kOk .i64)) _ _ _ g0
  have g1 : DataW.trod enc Tryz.prog w 0 (fun _ => true) true n 9 (([v0, v1].drop 1).take (Tryz.prog.cellsOf 9)) = some y1 := hf 1 _ rfl
  rw [show Tryz.prog.cellsOf 9 = 1 from by kernel_rfl] at g1
  obtain ⟨z1, e1, o1⟩ := ((zv Tryz.underlying9) : bN enc Tryz.prog w 9 (fun l : List UInt8 => [Go.Value.string (bs l)]) sOk) _ _ _ g1
  obtain rfl := List.head_eq_of_cons_eq e0
  obtain rfl := List.head_eq_of_cons_eq e1
  exact ⟨⟨z0, z1⟩, rfl, ⟨o0, o1⟩⟩
end
structure bF where
 Kind : Int
 By : Int
 Count : Int
 Seconds : Int
def bF.vals (r : bF) : List Go.Value := [.int .i64 r.Kind, .int .i64 r.By, .int .i64 r.Count, .int .i64 r.Seconds]
structure bF.ok (h : aB) (r : bF) : Prop where
 k0 : (kOk .i64) h r.Kind
 k1 : (kOk .i64) h r.By
 k2 : (kOk .i64) h r.Count
 k3 : (kOk .i64) h r.Seconds
theorem bF.ok_fr (h h' : aB) (r : bF) (f : Fr (fun _ => False) h h') (o : bF.ok h r) : bF.ok h' r :=
 ⟨o.k0, o.k1, o.k2, o.k3⟩
section
open Go.ChangeShapes Go.WideShapes Go.ChangeAt Go.RowKit
variable {H : Type} {enc : TypeId × Go.Value → H} {w : World}
set_option maxRecDepth 100000 in
theorem bF.op : bN enc Tryz.prog w uO bF.vals bF.ok := fun fuel cs x h => by
 obtain ⟨xs, n, rfl, hx, hl, hxl, hf⟩ := DataW.trod_struct Tryz.underlying59 h
 rw [show Tryz.prog.cellsOf 59 = 4 from by kernel_rfl] at hl
 match xs, hxl, cs, hl with
 | [y0, y1, y2, y3], _, [v0, v1, v2, v3], _ =>
  have g0 : DataW.trod enc Tryz.prog w 0 (fun _ => true) true n 3 (([v0, v1, v2, v3].drop 0).take (Tryz.prog.cellsOf 3)) = some y0 := hf 0 _ rfl
  rw [show Tryz.prog.cellsOf 3 = 1 from by kernel_rfl] at g0
  obtain ⟨z0, e0, o0⟩ := ((dZ Tryz.underlying3) : bN enc Tryz.prog w 3 (fun n : Int => [Go.Value.int .i64 n]) (kOk .i64)) _ _ _ g0
  have g1 : DataW.trod enc Tryz.prog w 0 (fun _ => true) true n 3 (([v0, v1, v2, v3].drop 1).take (Tryz.prog.cellsOf 3)) = some y1 := hf 1 _ rfl
  rw [show Tryz.prog.cellsOf 3 = 1 from by kernel_rfl] at g1
  obtain ⟨z1, e1, o1⟩ := ((dZ Tryz.underlying3) : bN enc Tryz.prog w 3 (fun n : Int => [Go.Value.int .i64 n]) (kOk .i64)) _ _ _ g1
  have g2 : DataW.trod enc Tryz.prog w 0 (fun _ => true) true n 3 (([v0, v1, v2, v3].drop 2).take (Tryz.prog.cellsOf 3)) = some y2 := hf 2 _ rfl
  rw [show Tryz.prog.cellsOf 3 = 1 from by kernel_rfl] at g2
  obtain ⟨z2, e2, o2⟩ := ((dZ Tryz.underlying3) : bN enc Tryz.prog w 3 (fun n : Int => [Go.Value.int .i64 n]) (kOk .i64)) _ _ _ g2
  have g3 : DataW.trod enc Tryz.prog w 0 (fun _ => true) true n 3 (([v0, v1, v2, v3].drop 3).take (Tryz.prog.cellsOf 3)) = some y3 := hf 3 _ rfl
  rw [show Tryz.prog.cellsOf 3 = 1 from by kernel_rfl] at g3
  obtain ⟨z3, e3, o3⟩ := ((dZ Tryz.underlying3) : bN enc Tryz.prog w 3 (fun n : Int => [Go.Value.int .i64 n]) (kOk .i64)) _ _ _ g3
  obtain rfl := List.head_eq_of_cons_eq e0
  obtain rfl := List.head_eq_of_cons_eq e1
  obtain rfl := List.head_eq_of_cons_eq e2
  obtain rfl := List.head_eq_of_cons_eq e3
  exact ⟨⟨z0, z1, z2, z3⟩, rfl, ⟨o0, o1, o2, o3⟩⟩
end
structure aO where
 Action : Int
 Proto : Int
 Src : Sl aN
 Dst : Sl aN
 SrcPorts : Sl aM
 DstPorts : Sl aM
 Both : Bool
 Sid : Int
 Rev : Int
 Priority : Int
 Msg : List UInt8
 Dir : Int
 Kind : Int
 Transforms : Sl Int
 Contents : Sl aI
 Tests : Sl bL
 Flow : Sl aZ
 Threshold : bF
def aO.vals (r : aO) : List Go.Value := [.int .i64 r.Action, .int .i64 r.Proto, .slice r.Src.p r.Src.xs.length r.Src.cap, .slice r.Dst.p r.Dst.xs.length r.Dst.cap, .slice r.SrcPorts.p r.SrcPorts.xs.length r.SrcPorts.cap, .slice r.DstPorts.p r.DstPorts.xs.length r.DstPorts.cap, .bool r.Both, .int .i64 r.Sid, .int .i64 r.Rev, .int .i64 r.Priority, .string (bs r.Msg), .int .i64 r.Dir, .int .i64 r.Kind, .slice r.Transforms.p r.Transforms.xs.length r.Transforms.cap, .slice r.Contents.p r.Contents.xs.length r.Contents.cap, .slice r.Tests.p r.Tests.xs.length r.Tests.cap, .slice r.Flow.p r.Flow.xs.length r.Flow.cap, .int .i64 r.Threshold.Kind, .int .i64 r.Threshold.By, .int .i64 r.Threshold.Count, .int .i64 r.Threshold.Seconds]
structure aO.ok (h : aB) (r : aO) : Prop where
 k0 : (kOk .i64) h r.Action
 k1 : (kOk .i64) h r.Proto
 k2 : (bH 6 aN.vals aN.ok) h r.Src
 k3 : (bH 6 aN.vals aN.ok) h r.Dst
 k4 : (bH 4 aM.vals aM.ok) h r.SrcPorts
 k5 : (bH 4 aM.vals aM.ok) h r.DstPorts
 k6 : bOk h r.Both
 k7 : (kOk .i64) h r.Sid
 k8 : (kOk .i64) h r.Rev
 k9 : (kOk .i64) h r.Priority
 k10 : sOk h r.Msg
 k11 : (kOk .i64) h r.Dir
 k12 : (kOk .i64) h r.Kind
 k13 : (bH 1 (fun n : Int => [Go.Value.int .i64 n]) (kOk .i64)) h r.Transforms
 k14 : (bH 7 aI.vals aI.ok) h r.Contents
 k15 : (bH 7 bL.vals bL.ok) h r.Tests
 k16 : (bH 2 aZ.vals aZ.ok) h r.Flow
 k17 : bF.ok h r.Threshold
theorem aO.ok_fr (h h' : aB) (r : aO) (f : Fr (fun _ => False) h h') (o : aO.ok h r) : aO.ok h' r :=
 ⟨o.k0, o.k1, (pL aN.ok_fr) _ _ _ f o.k2, (pL aN.ok_fr) _ _ _ f o.k3, (pL aM.ok_fr) _ _ _ f o.k4, (pL aM.ok_fr) _ _ _ f o.k5, o.k6, o.k7, o.k8, o.k9, o.k10, o.k11, o.k12, (pL zi) _ _ _ f o.k13, (pL aI.ok_fr) _ _ _ f o.k14, (pL bL.ok_fr) _ _ _ f o.k15, (pL aZ.ok_fr) _ _ _ f o.k16, bF.ok_fr _ _ _ f o.k17⟩
section
open Go.ChangeShapes Go.WideShapes Go.ChangeAt Go.RowKit
variable {H : Type} {enc : TypeId × Go.Value → H} {w : World}
set_option maxRecDepth 100000 in
theorem aO.op : bN enc Tryz.prog w cK aO.vals aO.ok := fun fuel cs x h => by
 obtain ⟨xs, n, rfl, hx, hl, hxl, hf⟩ := DataW.trod_struct Tryz.underlying61 h
 rw [show Tryz.prog.cellsOf 61 = 21 from by kernel_rfl] at hl
 match xs, hxl, cs, hl with
 | [y0, y1, y2, y3, y4, y5, y6, y7, y8, y9, y10, y11, y12, y13, y14, y15, y16, y17], _, [v0, v1, v2, v3, v4, v5, v6, v7, v8, v9, v10, v11, v12, v13, v14, v15, v16, v17, v18, v19, v20], _ =>
  have g0 : DataW.trod enc Tryz.prog w 0 (fun _ => true) true n 3 (([v0, v1, v2, v3, v4, v5, v6, v7, v8, v9, v10, v11, v12, v13, v14, v15, v16, v17, v18, v19, v20].drop 0).take (Tryz.prog.cellsOf 3)) = some y0 := hf 0 _ rfl
  rw [show Tryz.prog.cellsOf 3 = 1 from by kernel_rfl] at g0
  obtain ⟨z0, e0, o0⟩ := ((dZ Tryz.underlying3) : bN enc Tryz.prog w 3 (fun n : Int => [Go.Value.int .i64 n]) (kOk .i64)) _ _ _ g0
  have g1 : DataW.trod enc Tryz.prog w 0 (fun _ => true) true n 3 (([v0, v1, v2, v3, v4, v5, v6, v7, v8, v9, v10, v11, v12, v13, v14, v15, v16, v17, v18, v19, v20].drop 1).take (Tryz.prog.cellsOf 3)) = some y1 := hf 1 _ rfl
  rw [show Tryz.prog.cellsOf 3 = 1 from by kernel_rfl] at g1
  obtain ⟨z1, e1, o1⟩ := ((dZ Tryz.underlying3) : bN enc Tryz.prog w 3 (fun n : Int => [Go.Value.int .i64 n]) (kOk .i64)) _ _ _ g1
  have g2 : DataW.trod enc Tryz.prog w 0 (fun _ => true) true n 53 (([v0, v1, v2, v3, v4, v5, v6, v7, v8, v9, v10, v11, v12, v13, v14, v15, v16, v17, v18, v19, v20].drop 2).take (Tryz.prog.cellsOf 53)) = some y2 := hf 2 _ rfl
  rw [show Tryz.prog.cellsOf 53 = 1 from by kernel_rfl] at g2
  obtain ⟨z2, e2, o2⟩ := ((tJ Tryz.underlying53 (by kernel_rfl) (fun _ => rfl) aN.op) : bN enc Tryz.prog w 53 (fun s : Sl aN => [s.v]) (bH 6 aN.vals aN.ok)) _ _ _ g2
  have g3 : DataW.trod enc Tryz.prog w 0 (fun _ => true) true n 53 (([v0, v1, v2, v3, v4, v5, v6, v7, v8, v9, v10, v11, v12, v13, v14, v15, v16, v17, v18, v19, v20].drop 3).take (Tryz.prog.cellsOf 53)) = some y3 := hf 3 _ rfl
  rw [show Tryz.prog.cellsOf 53 = 1 from by kernel_rfl] at g3
  obtain ⟨z3, e3, o3⟩ := ((tJ Tryz.underlying53 (by kernel_rfl) (fun _ => rfl) aN.op) : bN enc Tryz.prog w 53 (fun s : Sl aN => [s.v]) (bH 6 aN.vals aN.ok)) _ _ _ g3
  have g4 : DataW.trod enc Tryz.prog w 0 (fun _ => true) true n 54 (([v0, v1, v2, v3, v4, v5, v6, v7, v8, v9, v10, v11, v12, v13, v14, v15, v16, v17, v18, v19, v20].drop 4).take (Tryz.prog.cellsOf 54)) = some y4 := hf 4 _ rfl
  rw [show Tryz.prog.cellsOf 54 = 1 from by kernel_rfl] at g4
  obtain ⟨z4, e4, o4⟩ := ((tJ Tryz.underlying54 (by kernel_rfl) (fun _ => rfl) aM.op) : bN enc Tryz.prog w 54 (fun s : Sl aM => [s.v]) (bH 4 aM.vals aM.ok)) _ _ _ g4
  have g5 : DataW.trod enc Tryz.prog w 0 (fun _ => true) true n 54 (([v0, v1, v2, v3, v4, v5, v6, v7, v8, v9, v10, v11, v12, v13, v14, v15, v16, v17, v18, v19, v20].drop 5).take (Tryz.prog.cellsOf 54)) = some y5 := hf 5 _ rfl
  rw [show Tryz.prog.cellsOf 54 = 1 from by kernel_rfl] at g5
  obtain ⟨z5, e5, o5⟩ := ((tJ Tryz.underlying54 (by kernel_rfl) (fun _ => rfl) aM.op) : bN enc Tryz.prog w 54 (fun s : Sl aM => [s.v]) (bH 4 aM.vals aM.ok)) _ _ _ g5
  have g6 : DataW.trod enc Tryz.prog w 0 (fun _ => true) true n 4 (([v0, v1, v2, v3, v4, v5, v6, v7, v8, v9, v10, v11, v12, v13, v14, v15, v16, v17, v18, v19, v20].drop 6).take (Tryz.prog.cellsOf 4)) = some y6 := hf 6 _ rfl
  rw [show Tryz.prog.cellsOf 4 = 1 from by kernel_rfl] at g6
  obtain ⟨z6, e6, o6⟩ := ((nW Tryz.underlying4) : bN enc Tryz.prog w 4 (fun n : Bool => [Go.Value.bool n]) bOk) _ _ _ g6
  have g7 : DataW.trod enc Tryz.prog w 0 (fun _ => true) true n 3 (([v0, v1, v2, v3, v4, v5, v6, v7, v8, v9, v10, v11, v12, v13, v14, v15, v16, v17, v18, v19, v20].drop 7).take (Tryz.prog.cellsOf 3)) = some y7 := hf 7 _ rfl
  rw [show Tryz.prog.cellsOf 3 = 1 from by kernel_rfl] at g7
  obtain ⟨z7, e7, o7⟩ := ((dZ Tryz.underlying3) : bN enc Tryz.prog w 3 (fun n : Int => [Go.Value.int .i64 n]) (kOk .i64)) _ _ _ g7
  have g8 : DataW.trod enc Tryz.prog w 0 (fun _ => true) true n 3 (([v0, v1, v2, v3, v4, v5, v6, v7, v8, v9, v10, v11, v12, v13, v14, v15, v16, v17, v18, v19, v20].drop 8).take (Tryz.prog.cellsOf 3)) = some y8 := hf 8 _ rfl
  rw [show Tryz.prog.cellsOf 3 = 1 from by kernel_rfl] at g8
  obtain ⟨z8, e8, o8⟩ := ((dZ Tryz.underlying3) : bN enc Tryz.prog w 3 (fun n : Int => [Go.Value.int .i64 n]) (kOk .i64)) _ _ _ g8
  have g9 : DataW.trod enc Tryz.prog w 0 (fun _ => true) true n 3 (([v0, v1, v2, v3, v4, v5, v6, v7, v8, v9, v10, v11, v12, v13, v14, v15, v16, v17, v18, v19, v20].drop 9).take (Tryz.prog.cellsOf 3)) = some y9 := hf 9 _ rfl
  rw [show Tryz.prog.cellsOf 3 = 1 from by kernel_rfl] at g9
  obtain ⟨z9, e9, o9⟩ := ((dZ Tryz.underlying3) : bN enc Tryz.prog w 3 (fun n : Int => [Go.Value.int .i64 n]) (kOk .i64)) _ _ _ g9
  have g10 : DataW.trod enc Tryz.prog w 0 (fun _ => true) true n 9 (([v0, v1, v2, v3, v4, v5, v6, v7, v8, v9, v10, v11, v12, v13, v14, v15, v16, v17, v18, v19, v20].drop 10).take (Tryz.prog.cellsOf 9)) = some y10 := hf 10 _ rfl
  rw [show Tryz.prog.cellsOf 9 = 1 from by kernel_rfl] at g10
  obtain ⟨z10, e10, o10⟩ := ((zv Tryz.underlying9) : bN enc Tryz.prog w 9 (fun l : List UInt8 => [Go.Value.string (bs l)]) sOk) _ _ _ g10
  have g11 : DataW.trod enc Tryz.prog w 0 (fun _ => true) true n 3 (([v0, v1, v2, v3, v4, v5, v6, v7, v8, v9, v10, v11, v12, v13, v14, v15, v16, v17, v18, v19, v20].drop 11).take (Tryz.prog.cellsOf 3)) = some y11 := hf 11 _ rfl
  rw [show Tryz.prog.cellsOf 3 = 1 from by kernel_rfl] at g11
  obtain ⟨z11, e11, o11⟩ := ((dZ Tryz.underlying3) : bN enc Tryz.prog w 3 (fun n : Int => [Go.Value.int .i64 n]) (kOk .i64)) _ _ _ g11
  have g12 : DataW.trod enc Tryz.prog w 0 (fun _ => true) true n 3 (([v0, v1, v2, v3, v4, v5, v6, v7, v8, v9, v10, v11, v12, v13, v14, v15, v16, v17, v18, v19, v20].drop 12).take (Tryz.prog.cellsOf 3)) = some y12 := hf 12 _ rfl
  rw [show Tryz.prog.cellsOf 3 = 1 from by kernel_rfl] at g12
  obtain ⟨z12, e12, o12⟩ := ((dZ Tryz.underlying3) : bN enc Tryz.prog w 3 (fun n : Int => [Go.Value.int .i64 n]) (kOk .i64)) _ _ _ g12
  have g13 : DataW.trod enc Tryz.prog w 0 (fun _ => true) true n 46 (([v0, v1, v2, v3, v4, v5, v6, v7, v8, v9, v10, v11, v12, v13, v14, v15, v16, v17, v18, v19, v20].drop 13).take (Tryz.prog.cellsOf 46)) = some y13 := hf 13 _ rfl
  rw [show Tryz.prog.cellsOf 46 = 1 from by kernel_rfl] at g13
  obtain ⟨z13, e13, o13⟩ := ((tJ Tryz.underlying46 (by kernel_rfl) (fun _ => rfl) (dZ Tryz.underlying3)) : bN enc Tryz.prog w 46 (fun s : Sl Int => [s.v]) (bH 1 (fun n : Int => [Go.Value.int .i64 n]) (kOk .i64))) _ _ _ g13
  have g14 : DataW.trod enc Tryz.prog w 0 (fun _ => true) true n 55 (([v0, v1, v2, v3, v4, v5, v6, v7, v8, v9, v10, v11, v12, v13, v14, v15, v16, v17, v18, v19, v20].drop 14).take (Tryz.prog.cellsOf 55)) = some y14 := hf 14 _ rfl
  rw [show Tryz.prog.cellsOf 55 = 1 from by kernel_rfl] at g14
  obtain ⟨z14, e14, o14⟩ := ((tJ Tryz.underlying55 (by kernel_rfl) (fun _ => rfl) aI.op) : bN enc Tryz.prog w 55 (fun s : Sl aI => [s.v]) (bH 7 aI.vals aI.ok)) _ _ _ g14
  have g15 : DataW.trod enc Tryz.prog w 0 (fun _ => true) true n 56 (([v0, v1, v2, v3, v4, v5, v6, v7, v8, v9, v10, v11, v12, v13, v14, v15, v16, v17, v18, v19, v20].drop 15).take (Tryz.prog.cellsOf 56)) = some y15 := hf 15 _ rfl
  rw [show Tryz.prog.cellsOf 56 = 1 from by kernel_rfl] at g15
  obtain ⟨z15, e15, o15⟩ := ((tJ Tryz.underlying56 (by kernel_rfl) (fun _ => rfl) bL.op) : bN enc Tryz.prog w 56 (fun s : Sl bL => [s.v]) (bH 7 bL.vals bL.ok)) _ _ _ g15
  have g16 : DataW.trod enc Tryz.prog w 0 (fun _ => true) true n 57 (([v0, v1, v2, v3, v4, v5, v6, v7, v8, v9, v10, v11, v12, v13, v14, v15, v16, v17, v18, v19, v20].drop 16).take (Tryz.prog.cellsOf 57)) = some y16 := hf 16 _ rfl
  rw [show Tryz.prog.cellsOf 57 = 1 from by kernel_rfl] at g16
  obtain ⟨z16, e16, o16⟩ := ((tJ Tryz.underlying57 (by kernel_rfl) (fun _ => rfl) aZ.op) : bN enc Tryz.prog w 57 (fun s : Sl aZ => [s.v]) (bH 2 aZ.vals aZ.ok)) _ _ _ g16
  have g17 : DataW.trod enc Tryz.prog w 0 (fun _ => true) true n 59 (([v0, v1, v2, v3, v4, v5, v6, v7, v8, v9, v10, v11, v12, v13, v14, v15, v16, v17, v18, v19, v20].drop 17).take (Tryz.prog.cellsOf 59)) = some y17 := hf 17 _ rfl
  rw [show Tryz.prog.cellsOf 59 = 4 from by kernel_rfl] at g17
  obtain ⟨z17, e17, o17⟩ := (bF.op : bN enc Tryz.prog w 59 bF.vals bF.ok) _ _ _ g17
  obtain rfl := List.head_eq_of_cons_eq e0
  obtain rfl := List.head_eq_of_cons_eq e1
  obtain rfl := List.head_eq_of_cons_eq e2
  obtain rfl := List.head_eq_of_cons_eq e3
  obtain rfl := List.head_eq_of_cons_eq e4
  obtain rfl := List.head_eq_of_cons_eq e5
  obtain rfl := List.head_eq_of_cons_eq e6
  obtain rfl := List.head_eq_of_cons_eq e7
  obtain rfl := List.head_eq_of_cons_eq e8
  obtain rfl := List.head_eq_of_cons_eq e9
  obtain rfl := List.head_eq_of_cons_eq e10
  obtain rfl := List.head_eq_of_cons_eq e11
  obtain rfl := List.head_eq_of_cons_eq e12
  obtain rfl := List.head_eq_of_cons_eq e13
  obtain rfl := List.head_eq_of_cons_eq e14
  obtain rfl := List.head_eq_of_cons_eq e15
  obtain rfl := List.head_eq_of_cons_eq e16
  have e17 : [v17, v18, v19, v20] = bF.vals z17 := e17
  simp only [bF.vals, List.cons.injEq, and_true] at e17
  obtain ⟨rfl, rfl, rfl, rfl⟩ := e17
  exact ⟨⟨z0, z1, z2, z3, z4, z5, z6, z7, z8, z9, z10, z11, z12, z13, z14, z15, z16, z17⟩, rfl, ⟨o0, o1, o2, o3, o4, o5, o6, o7, o8, o9, o10, o11, o12, o13, o14, o15, o16, o17⟩⟩
end
structure aJ where
 Lo : aK
 Hi : aK
def aJ.vals (r : aJ) : List Go.Value := [.bool r.Lo.V6, .int .u64 r.Lo.Hi, .int .u64 r.Lo.Lo, .bool r.Hi.V6, .int .u64 r.Hi.Hi, .int .u64 r.Hi.Lo]
structure aJ.ok (h : aB) (r : aJ) : Prop where
 k0 : aK.ok h r.Lo
 k1 : aK.ok h r.Hi
theorem aJ.ok_fr (h h' : aB) (r : aJ) (f : Fr (fun _ => False) h h') (o : aJ.ok h r) : aJ.ok h' r :=
 ⟨aK.ok_fr _ _ _ f o.k0, aK.ok_fr _ _ _ f o.k1⟩
section
open Go.ChangeShapes Go.WideShapes Go.ChangeAt Go.RowKit
variable {H : Type} {enc : TypeId × Go.Value → H} {w : World}
set_option maxRecDepth 100000 in
theorem aJ.op : bN enc Tryz.prog w lM aJ.vals aJ.ok := fun fuel cs x h => by
 obtain ⟨xs, n, rfl, hx, hl, hxl, hf⟩ := DataW.trod_struct Tryz.underlying152 h
 rw [show Tryz.prog.cellsOf 152 = 6 from by kernel_rfl] at hl
 match xs, hxl, cs, hl with
 | [y0, y1], _, [v0, v1, v2, v3, v4, v5], _ =>
  have g0 : DataW.trod enc Tryz.prog w 0 (fun _ => true) true n 25 (([v0, v1, v2, v3, v4, v5].drop 0).take (Tryz.prog.cellsOf 25)) = some y0 := hf 0 _ rfl
  rw [show Tryz.prog.cellsOf 25 = 3 from by kernel_rfl] at g0
  obtain ⟨z0, e0, o0⟩ := (aK.op : bN enc Tryz.prog w 25 aK.vals aK.ok) _ _ _ g0
  have g1 : DataW.trod enc Tryz.prog w 0 (fun _ => true) true n 25 (([v0, v1, v2, v3, v4, v5].drop 3).take (Tryz.prog.cellsOf 25)) = some y1 := hf 1 _ rfl
  rw [show Tryz.prog.cellsOf 25 = 3 from by kernel_rfl] at g1
  obtain ⟨z1, e1, o1⟩ := (aK.op : bN enc Tryz.prog w 25 aK.vals aK.ok) _ _ _ g1
  have e0 : [v0, v1, v2] = aK.vals z0 := e0
  simp only [aK.vals, List.cons.injEq, and_true] at e0
  obtain ⟨rfl, rfl, rfl⟩ := e0
  have e1 : [v3, v4, v5] = aK.vals z1 := e1
  simp only [aK.vals, List.cons.injEq, and_true] at e1
  obtain ⟨rfl, rfl, rfl⟩ := e1
  exact ⟨⟨z0, z1⟩, rfl, ⟨o0, o1⟩⟩
end
structure aP where
 Lo : Int
 Hi : Int
def aP.vals (r : aP) : List Go.Value := [.int .i64 r.Lo, .int .i64 r.Hi]
structure aP.ok (h : aB) (r : aP) : Prop where
 k0 : (kOk .i64) h r.Lo
 k1 : (kOk .i64) h r.Hi
theorem aP.ok_fr (h h' : aB) (r : aP) (f : Fr (fun _ => False) h h') (o : aP.ok h r) : aP.ok h' r :=
 ⟨o.k0, o.k1⟩
section
open Go.ChangeShapes Go.WideShapes Go.ChangeAt Go.RowKit
variable {H : Type} {enc : TypeId × Go.Value → H} {w : World}
set_option maxRecDepth 100000 in
theorem aP.op : bN enc Tryz.prog w rH aP.vals aP.ok := fun fuel cs x h => by
 obtain ⟨xs, n, rfl, hx, hl, hxl, hf⟩ := DataW.trod_struct Tryz.underlying155 h
 rw [show Tryz.prog.cellsOf 155 = 2 from by kernel_rfl] at hl
 match xs, hxl, cs, hl with
 | [y0, y1], _, [v0, v1], _ =>
  have g0 : DataW.trod enc Tryz.prog w 0 (fun _ => true) true n 3 (([v0, v1].drop 0).take (Tryz.prog.cellsOf 3)) = some y0 := hf 0 _ rfl
  rw [show Tryz.prog.cellsOf 3 = 1 from by kernel_rfl] at g0
  obtain ⟨z0, e0, o0⟩ := ((dZ Tryz.underlying3) : bN enc Tryz.prog w 3 (fun n : Int => [Go.Value.int .i64 n]) (kOk .i64)) _ _ _ g0
  have g1 : DataW.trod enc Tryz.prog w 0 (fun _ => true) true n 3 (([v0, v1].drop 1).take (Tryz.prog.cellsOf 3)) = some y1 := hf 1 _ rfl
  rw [show Tryz.prog.cellsOf 3 = 1 from by kernel_rfl] at g1
  obtain ⟨z1, e1, o1⟩ := ((dZ Tryz.underlying3) : bN enc Tryz.prog w 3 (fun n : Int => [Go.Value.int .i64 n]) (kOk .i64)) _ _ _ g1
  obtain rfl := List.head_eq_of_cons_eq e0
  obtain rfl := List.head_eq_of_cons_eq e1
  exact ⟨⟨z0, z1⟩, rfl, ⟨o0, o1⟩⟩
end
structure aE where
 Rule : aO
 Src : Sl aJ
 Dst : Sl aJ
 SrcPorts : Sl aP
 DstPorts : Sl aP
def aE.vals (r : aE) : List Go.Value := [.int .i64 r.Rule.Action, .int .i64 r.Rule.Proto, .slice r.Rule.Src.p r.Rule.Src.xs.length r.Rule.Src.cap, .slice r.Rule.Dst.p r.Rule.Dst.xs.length r.Rule.Dst.cap, .slice r.Rule.SrcPorts.p r.Rule.SrcPorts.xs.length r.Rule.SrcPorts.cap, .slice r.Rule.DstPorts.p r.Rule.DstPorts.xs.length r.Rule.DstPorts.cap, .bool r.Rule.Both, .int .i64 r.Rule.Sid, .int .i64 r.Rule.Rev, .int .i64 r.Rule.Priority, .string (bs r.Rule.Msg), .int .i64 r.Rule.Dir, .int .i64 r.Rule.Kind, .slice r.Rule.Transforms.p r.Rule.Transforms.xs.length r.Rule.Transforms.cap, .slice r.Rule.Contents.p r.Rule.Contents.xs.length r.Rule.Contents.cap, .slice r.Rule.Tests.p r.Rule.Tests.xs.length r.Rule.Tests.cap, .slice r.Rule.Flow.p r.Rule.Flow.xs.length r.Rule.Flow.cap, .int .i64 r.Rule.Threshold.Kind, .int .i64 r.Rule.Threshold.By, .int .i64 r.Rule.Threshold.Count, .int .i64 r.Rule.Threshold.Seconds, .slice r.Src.p r.Src.xs.length r.Src.cap, .slice r.Dst.p r.Dst.xs.length r.Dst.cap, .slice r.SrcPorts.p r.SrcPorts.xs.length r.SrcPorts.cap, .slice r.DstPorts.p r.DstPorts.xs.length r.DstPorts.cap]
structure aE.ok (h : aB) (r : aE) : Prop where
 k0 : aO.ok h r.Rule
 k1 : (bH 6 aJ.vals aJ.ok) h r.Src
 k2 : (bH 6 aJ.vals aJ.ok) h r.Dst
 k3 : (bH 2 aP.vals aP.ok) h r.SrcPorts
 k4 : (bH 2 aP.vals aP.ok) h r.DstPorts
theorem aE.ok_fr (h h' : aB) (r : aE) (f : Fr (fun _ => False) h h') (o : aE.ok h r) : aE.ok h' r :=
 ⟨aO.ok_fr _ _ _ f o.k0, (pL aJ.ok_fr) _ _ _ f o.k1, (pL aJ.ok_fr) _ _ _ f o.k2, (pL aP.ok_fr) _ _ _ f o.k3, (pL aP.ok_fr) _ _ _ f o.k4⟩
section
open Go.ChangeShapes Go.WideShapes Go.ChangeAt Go.RowKit
variable {H : Type} {enc : TypeId × Go.Value → H} {w : World}
set_option maxRecDepth 100000 in
theorem aE.op : bN enc Tryz.prog w cA aE.vals aE.ok := fun fuel cs x h => by
 obtain ⟨xs, n, rfl, hx, hl, hxl, hf⟩ := DataW.trod_struct Tryz.underlying65 h
 rw [show Tryz.prog.cellsOf 65 = 25 from by kernel_rfl] at hl
 match xs, hxl, cs, hl with
 | [y0, y1, y2, y3, y4], _, [v0, v1, v2, v3, v4, v5, v6, v7, v8, v9, v10, v11, v12, v13, v14, v15, v16, v17, v18, v19, v20, v21, v22, v23, v24], _ =>
  have g0 : DataW.trod enc Tryz.prog w 0 (fun _ => true) true n 61 (([v0, v1, v2, v3, v4, v5, v6, v7, v8, v9, v10, v11, v12, v13, v14, v15, v16, v17, v18, v19, v20, v21, v22, v23, v24].drop 0).take (Tryz.prog.cellsOf 61)) = some y0 := hf 0 _ rfl
  rw [show Tryz.prog.cellsOf 61 = 21 from by kernel_rfl] at g0
  obtain ⟨z0, e0, o0⟩ := (aO.op : bN enc Tryz.prog w 61 aO.vals aO.ok) _ _ _ g0
  have g1 : DataW.trod enc Tryz.prog w 0 (fun _ => true) true n 62 (([v0, v1, v2, v3, v4, v5, v6, v7, v8, v9, v10, v11, v12, v13, v14, v15, v16, v17, v18, v19, v20, v21, v22, v23, v24].drop 21).take (Tryz.prog.cellsOf 62)) = some y1 := hf 1 _ rfl
  rw [show Tryz.prog.cellsOf 62 = 1 from by kernel_rfl] at g1
  obtain ⟨z1, e1, o1⟩ := ((tJ Tryz.underlying62 (by kernel_rfl) (fun _ => rfl) aJ.op) : bN enc Tryz.prog w 62 (fun s : Sl aJ => [s.v]) (bH 6 aJ.vals aJ.ok)) _ _ _ g1
  have g2 : DataW.trod enc Tryz.prog w 0 (fun _ => true) true n 62 (([v0, v1, v2, v3, v4, v5, v6, v7, v8, v9, v10, v11, v12, v13, v14, v15, v16, v17, v18, v19, v20, v21, v22, v23, v24].drop 22).take (Tryz.prog.cellsOf 62)) = some y2 := hf 2 _ rfl
  rw [show Tryz.prog.cellsOf 62 = 1 from by kernel_rfl] at g2
  obtain ⟨z2, e2, o2⟩ := ((tJ Tryz.underlying62 (by kernel_rfl) (fun _ => rfl) aJ.op) : bN enc Tryz.prog w 62 (fun s : Sl aJ => [s.v]) (bH 6 aJ.vals aJ.ok)) _ _ _ g2
  have g3 : DataW.trod enc Tryz.prog w 0 (fun _ => true) true n 63 (([v0, v1, v2, v3, v4, v5, v6, v7, v8, v9, v10, v11, v12, v13, v14, v15, v16, v17, v18, v19, v20, v21, v22, v23, v24].drop 23).take (Tryz.prog.cellsOf 63)) = some y3 := hf 3 _ rfl
  rw [show Tryz.prog.cellsOf 63 = 1 from by kernel_rfl] at g3
  obtain ⟨z3, e3, o3⟩ := ((tJ Tryz.underlying63 (by kernel_rfl) (fun _ => rfl) aP.op) : bN enc Tryz.prog w 63 (fun s : Sl aP => [s.v]) (bH 2 aP.vals aP.ok)) _ _ _ g3
  have g4 : DataW.trod enc Tryz.prog w 0 (fun _ => true) true n 63 (([v0, v1, v2, v3, v4, v5, v6, v7, v8, v9, v10, v11, v12, v13, v14, v15, v16, v17, v18, v19, v20, v21, v22, v23, v24].drop 24).take (Tryz.prog.cellsOf 63)) = some y4 := hf 4 _ rfl
  rw [show Tryz.prog.cellsOf 63 = 1 from by kernel_rfl] at g4
  obtain ⟨z4, e4, o4⟩ := ((tJ Tryz.underlying63 (by kernel_rfl) (fun _ => rfl) aP.op) : bN enc Tryz.prog w 63 (fun s : Sl aP => [s.v]) (bH 2 aP.vals aP.ok)) _ _ _ g4
  have e0 : [v0, v1, v2, v3, v4, v5, v6, v7, v8, v9, v10, v11, v12, v13, v14, v15, v16, v17, v18, v19, v20] = aO.vals z0 := e0
  simp only [aO.vals, List.cons.injEq, and_true] at e0
  obtain ⟨rfl, rfl, rfl, rfl, rfl, rfl, rfl, rfl, rfl, rfl, rfl, rfl, rfl, rfl, rfl, rfl, rfl, rfl, rfl, rfl, rfl⟩ := e0
  obtain rfl := List.head_eq_of_cons_eq e1
  obtain rfl := List.head_eq_of_cons_eq e2
  obtain rfl := List.head_eq_of_cons_eq e3
  obtain rfl := List.head_eq_of_cons_eq e4
  exact ⟨⟨z0, z1, z2, z3, z4⟩, rfl, ⟨o0, o1, o2, o3, o4⟩⟩
end
structure aR where
 Proto : Int
 Src : aK
 Dst : aK
 Sport : Int
 Dport : Int
def aR.vals (r : aR) : List Go.Value := [.int .i64 r.Proto, .bool r.Src.V6, .int .u64 r.Src.Hi, .int .u64 r.Src.Lo, .bool r.Dst.V6, .int .u64 r.Dst.Hi, .int .u64 r.Dst.Lo, .int .i64 r.Sport, .int .i64 r.Dport]
structure aR.ok (h : aB) (r : aR) : Prop where
 k0 : (kOk .i64) h r.Proto
 k1 : aK.ok h r.Src
 k2 : aK.ok h r.Dst
 k3 : (kOk .i64) h r.Sport
 k4 : (kOk .i64) h r.Dport
section
open Go.ChangeShapes Go.WideShapes Go.ChangeAt Go.RowKit
variable {H : Type} {enc : TypeId × Go.Value → H} {w : World}
set_option maxRecDepth 100000 in
theorem aR.op : bN enc Tryz.prog w hU aR.vals aR.ok := fun fuel cs x h => by
 obtain ⟨xs, n, rfl, hx, hl, hxl, hf⟩ := DataW.trod_struct Tryz.underlying27 h
 rw [show Tryz.prog.cellsOf 27 = 9 from by kernel_rfl] at hl
 match xs, hxl, cs, hl with
 | [y0, y1, y2, y3, y4], _, [v0, v1, v2, v3, v4, v5, v6, v7, v8], _ =>
  have g0 : DataW.trod enc Tryz.prog w 0 (fun _ => true) true n 3 (([v0, v1, v2, v3, v4, v5, v6, v7, v8].drop 0).take (Tryz.prog.cellsOf 3)) = some y0 := hf 0 _ rfl
  rw [show Tryz.prog.cellsOf 3 = 1 from by kernel_rfl] at g0
  obtain ⟨z0, e0, o0⟩ := ((dZ Tryz.underlying3) : bN enc Tryz.prog w 3 (fun n : Int => [Go.Value.int .i64 n]) (kOk .i64)) _ _ _ g0
  have g1 : DataW.trod enc Tryz.prog w 0 (fun _ => true) true n 25 (([v0, v1, v2, v3, v4, v5, v6, v7, v8].drop 1).take (Tryz.prog.cellsOf 25)) = some y1 := hf 1 _ rfl
  rw [show Tryz.prog.cellsOf 25 = 3 from by kernel_rfl] at g1
  obtain ⟨z1, e1, o1⟩ := (aK.op : bN enc Tryz.prog w 25 aK.vals aK.ok) _ _ _ g1
  have g2 : DataW.trod enc Tryz.prog w 0 (fun _ => true) true n 25 (([v0, v1, v2, v3, v4, v5, v6, v7, v8].drop 4).take (Tryz.prog.cellsOf 25)) = some y2 := hf 2 _ rfl
  rw [show Tryz.prog.cellsOf 25 = 3 from by kernel_rfl] at g2
  obtain ⟨z2, e2, o2⟩ := (aK.op : bN enc Tryz.prog w 25 aK.vals aK.ok) _ _ _ g2
  have g3 : DataW.trod enc Tryz.prog w 0 (fun _ => true) true n 3 (([v0, v1, v2, v3, v4, v5, v6, v7, v8].drop 7).take (Tryz.prog.cellsOf 3)) = some y3 := hf 3 _ rfl
  rw [show Tryz.prog.cellsOf 3 = 1 from by kernel_rfl] at g3
  obtain ⟨z3, e3, o3⟩ := ((dZ Tryz.underlying3) : bN enc Tryz.prog w 3 (fun n : Int => [Go.Value.int .i64 n]) (kOk .i64)) _ _ _ g3
  have g4 : DataW.trod enc Tryz.prog w 0 (fun _ => true) true n 3 (([v0, v1, v2, v3, v4, v5, v6, v7, v8].drop 8).take (Tryz.prog.cellsOf 3)) = some y4 := hf 4 _ rfl
  rw [show Tryz.prog.cellsOf 3 = 1 from by kernel_rfl] at g4
  obtain ⟨z4, e4, o4⟩ := ((dZ Tryz.underlying3) : bN enc Tryz.prog w 3 (fun n : Int => [Go.Value.int .i64 n]) (kOk .i64)) _ _ _ g4
  obtain rfl := List.head_eq_of_cons_eq e0
  have e1 : [v1, v2, v3] = aK.vals z1 := e1
  simp only [aK.vals, List.cons.injEq, and_true] at e1
  obtain ⟨rfl, rfl, rfl⟩ := e1
  have e2 : [v4, v5, v6] = aK.vals z2 := e2
  simp only [aK.vals, List.cons.injEq, and_true] at e2
  obtain ⟨rfl, rfl, rfl⟩ := e2
  obtain rfl := List.head_eq_of_cons_eq e3
  obtain rfl := List.head_eq_of_cons_eq e4
  exact ⟨⟨z0, z1, z2, z3, z4⟩, rfl, ⟨o0, o1, o2, o3, o4⟩⟩
end
structure bR where
 Kind : Int
 Dir : Int
 Index : Int
 Data : List UInt8
def bR.vals (r : bR) : List Go.Value := [.int .i64 r.Kind, .int .i64 r.Dir, .int .i64 r.Index, .string (bs r.Data)]
structure bR.ok (h : aB) (r : bR) : Prop where
 k0 : (kOk .i64) h r.Kind
 k1 : (kOk .i64) h r.Dir
 k2 : (kOk .i64) h r.Index
 k3 : sOk h r.Data
section
open Go.ChangeShapes Go.WideShapes Go.ChangeAt Go.RowKit
variable {H : Type} {enc : TypeId × Go.Value → H} {w : World}
set_option maxRecDepth 100000 in
theorem bR.op : bN enc Tryz.prog w od bR.vals bR.ok := fun fuel cs x h => by
 obtain ⟨xs, n, rfl, hx, hl, hxl, hf⟩ := DataW.trod_struct Tryz.underlying51 h
 rw [show Tryz.prog.cellsOf 51 = 4 from by kernel_rfl] at hl
 match xs, hxl, cs, hl with
 | [y0, y1, y2, y3], _, [v0, v1, v2, v3], _ =>
  have g0 : DataW.trod enc Tryz.prog w 0 (fun _ => true) true n 3 (([v0, v1, v2, v3].drop 0).take (Tryz.prog.cellsOf 3)) = some y0 := hf 0 _ rfl
  rw [show Tryz.prog.cellsOf 3 = 1 from by kernel_rfl] at g0
  obtain ⟨z0, e0, o0⟩ := ((dZ Tryz.underlying3) : bN enc Tryz.prog w 3 (fun n : Int => [Go.Value.int .i64 n]) (kOk .i64)) _ _ _ g0
  have g1 : DataW.trod enc Tryz.prog w 0 (fun _ => true) true n 3 (([v0, v1, v2, v3].drop 1).take (Tryz.prog.cellsOf 3)) = some y1 := hf 1 _ rfl
  rw [show Tryz.prog.cellsOf 3 = 1 from by kernel_rfl] at g1
  obtain ⟨z1, e1, o1⟩ := ((dZ Tryz.underlying3) : bN enc Tryz.prog w 3 (fun n : Int => [Go.Value.int .i64 n]) (kOk .i64)) _ _ _ g1
  have g2 : DataW.trod enc Tryz.prog w 0 (fun _ => true) true n 3 (([v0, v1, v2, v3].drop 2).take (Tryz.prog.cellsOf 3)) = some y2 := hf 2 _ rfl
  rw [show Tryz.prog.cellsOf 3 = 1 from by kernel_rfl] at g2
  obtain ⟨z2, e2, o2⟩ := ((dZ Tryz.underlying3) : bN enc Tryz.prog w 3 (fun n : Int => [Go.Value.int .i64 n]) (kOk .i64)) _ _ _ g2
  have g3 : DataW.trod enc Tryz.prog w 0 (fun _ => true) true n 9 (([v0, v1, v2, v3].drop 3).take (Tryz.prog.cellsOf 9)) = some y3 := hf 3 _ rfl
  rw [show Tryz.prog.cellsOf 9 = 1 from by kernel_rfl] at g3
  obtain ⟨z3, e3, o3⟩ := ((zv Tryz.underlying9) : bN enc Tryz.prog w 9 (fun l : List UInt8 => [Go.Value.string (bs l)]) sOk) _ _ _ g3
  obtain rfl := List.head_eq_of_cons_eq e0
  obtain rfl := List.head_eq_of_cons_eq e1
  obtain rfl := List.head_eq_of_cons_eq e2
  obtain rfl := List.head_eq_of_cons_eq e3
  exact ⟨⟨z0, z1, z2, z3⟩, rfl, ⟨o0, o1, o2, o3⟩⟩
end
structure bM where
 Text : List UInt8
 Nocase : Bool
def bM.vals (r : bM) : List Go.Value := [.string (bs r.Text), .bool r.Nocase]
structure bM.ok (h : aB) (r : bM) : Prop where
 k0 : sOk h r.Text
 k1 : bOk h r.Nocase
theorem bM.ok_fr (h h' : aB) (r : bM) (f : Fr (fun _ => False) h h') (o : bM.ok h r) : bM.ok h' r :=
 ⟨o.k0, o.k1⟩
structure bK where
 Kind : Int
 Transforms : Sl Int
 Patterns : Sl bM
 Rules : Sl (Sl Int)
 Always : Sl Int
def bK.vals (r : bK) : List Go.Value := [.int .i64 r.Kind, .slice r.Transforms.p r.Transforms.xs.length r.Transforms.cap, .slice r.Patterns.p r.Patterns.xs.length r.Patterns.cap, .slice r.Rules.p r.Rules.xs.length r.Rules.cap, .slice r.Always.p r.Always.xs.length r.Always.cap]
structure bK.ok (h : aB) (r : bK) : Prop where
 k0 : (kOk .i64) h r.Kind
 k1 : (bH 1 (fun n : Int => [Go.Value.int .i64 n]) (kOk .i64)) h r.Transforms
 k2 : (bH 2 bM.vals bM.ok) h r.Patterns
 k3 : (bH 1 (fun s : Sl Int => [s.v]) (bH 1 (fun n : Int => [Go.Value.int .i64 n]) (kOk .i64))) h r.Rules
 k4 : (bH 1 (fun n : Int => [Go.Value.int .i64 n]) (kOk .i64)) h r.Always
theorem bK.ok_fr (h h' : aB) (r : bK) (f : Fr (fun _ => False) h h') (o : bK.ok h r) : bK.ok h' r :=
 ⟨o.k0, (pL zi) _ _ _ f o.k1, (pL bM.ok_fr) _ _ _ f o.k2, (pL (pL zi)) _ _ _ f o.k3, (pL zi) _ _ _ f o.k4⟩
end Go.Proofs.YtjmfpeiidlpngaaGreatDoor
namespace Go.Proofs.YtjmfpeiidlpngaaGreatDoor.Au
set_option linter.unusedSimpArgs false
set_option linter.unusedVariables false
set_option maxRecDepth 20000
open Go
open Go.IntKind (wrap)
abbrev Cn := aI
abbrev Ts := bL
def pQ (d : Nm) (p k : Nat) : Nm := (d.drop p).take k
def atB (c : Cn) (d : Nm) (p : Int) : Bool :=
 decide (0 ≤ p ∧ p + c.Pattern.length ≤ d.length) && (if c.Nocase = true then decide (cF (pQ d p.toNat c.Pattern.length) = cF c.Pattern) else decide (pQ d p.toNat c.Pattern.length = c.Pattern))
theorem LZ {a b : Nm} (i : Nat) (ha : i < a.length) (hb : i < b.length) (h : bA (fK a[i]) ≠ bA (fK b[i])) : cF a ≠ cF b := fun e => by
 have h1 : (cF a)[i]? = (cF b)[i]? := by rw [e]
 unfold cF at h1
 rw [List.getElem?_map, List.getElem?_map, List.getElem?_eq_getElem ha, List.getElem?_eq_getElem hb] at h1
 exact h (congrArg bA (Option.some.inj h1))
def atT (t : Ts) (cur : Int) : Int := if t.Relative = true then t.Offset + cur else t.Offset
def MS (t : Ts) (d : Nm) (cur : Int) : Prop := (t.Size = 1 ∨ t.Size = 2 ∨ t.Size = 4) ∧ 0 ≤ atT t cur ∧ atT t cur + t.Size ≤ d.length
instance (t : Ts) (d : Nm) (cur : Int) : Decidable (MS t d cur) := by unfold MS; exact inferInstance
theorem wA {d : Nm} {i : Nat} (h : i < d.length) : d.getD i 0 = d[i] := by rw [List.getD_eq_getElem?_getD, List.getElem?_eq_getElem h]; rfl
end Go.Proofs.YtjmfpeiidlpngaaGreatDoor.Au
namespace Go.Proofs.YtjmfpeiidlpngaaGreatDoor.Au
set_option linter.unusedSimpArgs false
set_option linter.unusedVariables false
set_option maxRecDepth 20000
open Go
open Go.IntKind (wrap)
def ur (a : aK) : Bool := a.V6 || (a.Hi == 0 && decide (a.Lo ≤ 4294967295))
def ltA (a b : aK) : Bool := if a.V6 ≠ b.V6 then b.V6 else if a.Hi ≠ b.Hi then decide (a.Hi < b.Hi) else decide (a.Lo < b.Lo)
def EQ (r : aJ) : Bool := ur r.Lo && (ur r.Hi && ((r.Lo.V6 == r.Hi.V6) && !ltA r.Hi r.Lo))
def inR (a : aK) (r : aJ) : Bool := EQ r && ((r.Lo.V6 == a.V6) && (!ltA a r.Lo && !ltA r.Hi a))
def Il (l : List aJ) (a : aK) : Bool := ur a && l.any (inR a)
def Iv (l : List aP) (n : Int) : Bool := decide (0 ≤ n ∧ n ≤ 4294967296) && l.any fun x => decide (x.Lo ≤ n) && decide (n ≤ x.Hi)
def zG (b : aE) (s d : aK) (sp dp : Int) : Bool := Il b.Src.xs s && (Iv b.SrcPorts.xs sp && (Il b.Dst.xs d && Iv b.DstPorts.xs dp))
def eE (b : aE) (f : aR) (dir : Int) : Bool :=
 decide (b.Rule.Proto = f.Proto ∧ (dir = 1 ∨ dir = 2) ∧ (b.Rule.Dir = 0 ∨ b.Rule.Dir = dir)) && (zG b f.Src f.Dst f.Sport f.Dport || (b.Rule.Both && zG b f.Dst f.Src f.Dport f.Sport))
def eqA (a b : aK) : Bool := (a.V6 == b.V6) && ((a.Hi == b.Hi) && (a.Lo == b.Lo))
theorem Aw {a b : aK} : eqA a b = true ↔ a = b := by
 obtain ⟨v1, x1, y1⟩ := a
 obtain ⟨v2, x2, y2⟩ := b
 unfold eqA
 simp
def Kw (a b : aK) : Int := if eqA a b = true then 0 else if ltA a b = true then -1 else 1
theorem KD (a : aK) : ltA a a = false := by
 unfold ltA
 rw [if_neg (fun h => h rfl), if_neg (fun h => h rfl)]
 exact decide_eq_false (Int.lt_irrefl _)
theorem Mu {a b : aK} (h : a.V6 ≠ b.V6) : ltA a b = b.V6 := by unfold ltA; rw [if_pos h]
theorem IZ {a b : aK} (h : a.V6 = b.V6) (hx : a.Hi ≠ b.Hi) : ltA a b = decide (a.Hi < b.Hi) := by unfold ltA; rw [if_neg (fun hh => hh h), if_pos hx]
theorem Jy {a b : aK} (h : a.V6 = b.V6) (hx : a.Hi = b.Hi) : ltA a b = decide (a.Lo < b.Lo) := by unfold ltA; rw [if_neg (fun hh => hh h), if_neg (fun hh => hh hx)]
theorem Fx (a b : aK) : decide (Kw a b ≤ 0) = !ltA b a := by
 unfold Kw
 by_cases h : a = b
 ·subst h; rw [if_pos (Aw.2 rfl), KD]; rfl
 rw [if_neg (fun hh => h (Aw.1 hh))]
 by_cases hv : a.V6 = b.V6
 ·by_cases hx : a.Hi = b.Hi
  ·have hy : a.Lo ≠ b.Lo := fun e => h (by
    obtain ⟨v1, x1, y1⟩ := a
    obtain ⟨v2, x2, y2⟩ := b
    obtain rfl : v1 = v2 := hv
    obtain rfl : x1 = x2 := hx
    obtain rfl : y1 = y2 := e
    rfl)
   rw [Jy hv hx, Jy hv.symm hx.symm]
   by_cases hl : a.Lo < b.Lo
   ·rw [decide_eq_true hl, if_pos rfl, decide_eq_false (p := b.Lo < a.Lo) (by omega)]; rfl
   ·rw [decide_eq_false hl, if_neg (by decide), decide_eq_true (p := b.Lo < a.Lo) (by omega)]; rfl
  ·rw [IZ hv hx, IZ hv.symm (Ne.symm hx)]
   by_cases hl : a.Hi < b.Hi
   ·rw [decide_eq_true hl, if_pos rfl, decide_eq_false (p := b.Hi < a.Hi) (by omega)]; rfl
   ·rw [decide_eq_false hl, if_neg (by decide), decide_eq_true (p := b.Hi < a.Hi) (by omega)]; rfl
 ·rw [Mu hv, Mu (Ne.symm hv)]
  revert hv
  cases a.V6 <;> cases b.V6 <;> intro hv <;> first | exact absurd rfl hv | rfl
section
variable {h : aB} {Q : Value → aB → Prop}
theorem BO [Gh] (a : aK) (hk : ∀ h', Fr (fun _ => False) h h' → Q (.bool (ur a)) h') : aD Tryz.prog jX #[.agg a.vals.toArray] h Q := by
 apply Al
 unfold uS
 refine aU (vs := a.vals) fun t1 h1 f1 e1 o1 => ?_
 have c1 : aY h1 t1 a.vals := o1.cells
 have hk := hk h1 f1
 unfold ur at hk
 refine aG (c1.at0 rfl) (ifB (fun e => ?_) fun e => aA (c1.at (j := 1) rfl) (ifE (fun e2 => aA (c1.at (j := 2) rfl) ?_) fun e2 => ?_))
 ·rw [e] at hk; exact hk
 ·rw [e, e2] at hk; simpa using hk
 ·rw [e, Bool.false_or, beq_eq_false_iff_ne.2 e2, Bool.false_and] at hk; exact hk
theorem Ge [Gh] (a : aK) (hk : ∀ h', Fr (fun _ => False) h h' → Q (.bool (ur a)) h') : aD Tryz.prog mz #[.agg a.vals.toArray] h Q := by
 apply DE
 unfold xX
 refine aU (vs := a.vals) fun t1 h1 f1 e1 o1 => ?_
 have c1 : aY h1 t1 a.vals := o1.cells
 have hk := hk h1 f1
 unfold ur at hk
 refine aG (c1.at0 rfl) (ifB (fun e => ?_) fun e => aA (c1.at (j := 1) rfl) (ifE (fun e2 => aA (c1.at (j := 2) rfl) ?_) fun e2 => ?_))
 ·rw [e] at hk; exact hk
 ·rw [e, e2] at hk
  have e3 : decide (a.Lo < 4294967296) = decide (a.Lo ≤ 4294967295) := by rw [decide_eq_decide]; omega
  rw [e3]; simpa using hk
 ·rw [e, Bool.false_or, beq_eq_false_iff_ne.2 e2, Bool.false_and] at hk; exact hk
theorem BC [Gh] (a b : aK) (hk : ∀ h', Fr (fun _ => False) h h' → Q (.bool (ltA a b)) h') : aD Tryz.prog kB #[.agg a.vals.toArray, .agg b.vals.toArray] h Q := by
 apply AG
 unfold vN
 refine aU (vs := a.vals) fun t2 h1 f1 e1 o1 => aU (vs := b.vals) fun t3 h2 f2 e2 o2 => ?_
 have c1 : aY h2 t2 a.vals := o1.cells.fr0 f2
 have c2 : aY h2 t3 b.vals := o2.cells
 have hk := hk h2 (f1.trans f2)
 unfold ltA at hk
 refine aG (c1.at0 rfl) (aG (c2.at0 rfl) ?_)
 by_cases hv : a.V6 = b.V6
 ·rw [if_neg (fun h => h hv)] at hk
  rw [if_neg (by simp [hv])]
  refine aA (c1.at (j := 1) rfl) (aA (c2.at (j := 1) rfl) (lu (fun hx => ?_) fun hx => ?_))
  ·rw [if_pos hx] at hk
   exact aA (c1.at (j := 1) rfl) (aA (c2.at (j := 1) rfl) hk)
  ·rw [if_neg (fun h => h hx)] at hk
   exact aA (c1.at (j := 2) rfl) (aA (c2.at (j := 2) rfl) hk)
 ·rw [if_pos hv] at hk
  rw [if_pos (by simpa using hv)]
  exact aG (c2.at0 rfl) hk
theorem zj [Gh] (a b : aK) (hk : ∀ h', Fr (fun _ => False) h h' → Q (.int .i64 (Kw a b)) h') : aD Tryz.prog iF #[.agg a.vals.toArray, .agg b.vals.toArray] h Q := by
 apply ye
 unfold sa
 refine aU (vs := a.vals) fun t2 h1 f1 e1 o1 => aU (vs := b.vals) fun t3 h2 f2 e2 o2 => ?_
 have c1 : aY h2 t2 a.vals := o1.cells.fr0 f2
 have c2 : aY h2 t3 b.vals := o2.cells
 have hk := hk h2 (f1.trans f2)
 unfold Kw at hk
 refine aG (c1.at0 rfl) (aA (c1.at (j := 1) rfl) (aA (c1.at (j := 2) rfl) (aG (c2.at0 rfl) (aA (c2.at (j := 1) rfl) (aA (c2.at (j := 2) rfl) ?_)))))
 by_cases h : a = b
 ·rw [if_pos (Aw.2 h)] at hk
  rw [if_pos (by rw [h]; simp)]; exact hk
 rw [if_neg (fun hh => h (Aw.1 hh))] at hk
 rw [if_neg (fun hh => h (by
  simp only [Bool.and_true, Bool.and_eq_true, beq_iff_eq] at hh
  obtain ⟨v1, x1, y1⟩ := a
  obtain ⟨v2, x2, y2⟩ := b
  obtain ⟨rfl, rfl, rfl⟩ := hh
  rfl))]
 refine aG (c1.at0 rfl) (aG (c2.at0 rfl) ?_)
 by_cases hv : a.V6 = b.V6
 ·rw [if_neg (by simp [hv])]
  refine aA (c1.at (j := 1) rfl) (aA (c2.at (j := 1) rfl) (lu (fun hx => ?_) fun hx => ?_))
  ·rw [IZ hv hx] at hk
   refine aA (c1.at (j := 1) rfl) (aA (c2.at (j := 1) rfl) (ifD (fun hl => ?_) fun hl => ?_))
   ·rw [decide_eq_true hl, if_pos rfl] at hk; exact hk
   ·rw [decide_eq_false hl, if_neg (by decide)] at hk; exact hk
  ·rw [Jy hv hx] at hk
   refine aA (c1.at (j := 2) rfl) (aA (c2.at (j := 2) rfl) (ifD (fun hl => ?_) fun hl => ?_))
   ·rw [decide_eq_true hl, if_pos rfl] at hk; exact hk
   ·rw [decide_eq_false hl, if_neg (by decide)] at hk; exact hk
 ·rw [Mu hv] at hk
  rw [if_pos (by simpa using hv)]
  refine aG (c2.at0 rfl) (ifB (fun e => ?_) fun e => ?_)
  ·rw [if_pos e] at hk; exact hk
  ·rw [if_neg (by rw [e]; decide)] at hk; exact hk
theorem LQ [Gh] (r : aJ) (hk : ∀ h', Fr (fun _ => False) h h' → Q (.bool (EQ r)) h') : aD Tryz.prog qf #[.agg r.vals.toArray] h Q := by
 apply B4
 unfold vM
 unfold EQ at hk
 refine aU (vs := r.vals) fun t1 h1 f1 e1 o1 => ?_
 have c1 : aY h1 t1 r.vals := o1.cells
 refine aG (c1.at0 rfl) (aA (c1.at (j := 1) rfl) (aA (c1.at (j := 2) rfl) ?_))
 refine BO r.Lo fun h2 f2 => ⟨_, rfl, ifB (fun e => ?_) fun e => ?_⟩
 ·rw [e, Bool.true_and] at hk
  have c2 := c1.fr0 f2
  refine aG (c2.at (j := 3) rfl) (aA (c2.at (j := 4) rfl) (aA (c2.at (j := 5) rfl) ?_))
  refine BO r.Hi fun h3 f3 => ⟨_, rfl, ifB (fun e2 => ?_) fun e2 => ?_⟩
  ·rw [e2, Bool.true_and] at hk
   have c3 := c2.fr0 f3
   refine aG (c3.at0 rfl) (aG (c3.at (j := 3) rfl) (ifB (fun e3 => ?_) fun e3 => ?_))
   ·rw [e3, Bool.true_and] at hk
    refine aG (c3.at0 rfl) (aA (c3.at (j := 1) rfl) (aA (c3.at (j := 2) rfl) (aG (c3.at (j := 3) rfl) (aA (c3.at (j := 4) rfl) (aA (c3.at (j := 5) rfl) ?_)))))
    refine zj r.Lo r.Hi fun h4 f4 => ⟨_, rfl, ?_⟩
    rw [Fx]
    exact hk h4 (((f1.trans f2).trans f3).trans f4)
   ·rw [e3, Bool.false_and] at hk; exact hk h3 ((f1.trans f2).trans f3)
  ·rw [e2, Bool.false_and] at hk; exact hk h3 ((f1.trans f2).trans f3)
 ·rw [e, Bool.false_and] at hk; exact hk h2 (f1.trans f2)
theorem Kx [Gh] (r : aJ) (hk : ∀ h', Fr (fun _ => False) h h' → Q (.bool (EQ r)) h') : aD Tryz.prog sx #[.agg r.vals.toArray] h Q := by
 apply D2
 unfold yz
 unfold EQ at hk
 refine aU (vs := r.vals) fun t1 h1 f1 e1 o1 => ?_
 have c1 : aY h1 t1 r.vals := o1.cells
 refine aG (c1.at0 rfl) (aA (c1.at (j := 1) rfl) (aA (c1.at (j := 2) rfl) ?_))
 refine Ge r.Lo fun h2 f2 => ⟨_, rfl, ifB (fun e => ?_) fun e => ?_⟩
 ·rw [e, Bool.true_and] at hk
  have c2 := c1.fr0 f2
  refine aG (c2.at (j := 3) rfl) (aA (c2.at (j := 4) rfl) (aA (c2.at (j := 5) rfl) ?_))
  refine Ge r.Hi fun h3 f3 => ⟨_, rfl, ifB (fun e2 => ?_) fun e2 => ?_⟩
  ·rw [e2, Bool.true_and] at hk
   have c3 := c2.fr0 f3
   refine aG (c3.at0 rfl) (aG (c3.at (j := 3) rfl) (ifB (fun e3 => ?_) fun e3 => ?_))
   ·rw [e3, Bool.true_and] at hk
    refine aG (c3.at (j := 3) rfl) (aA (c3.at (j := 4) rfl) (aA (c3.at (j := 5) rfl) (aG (c3.at0 rfl) (aA (c3.at (j := 1) rfl) (aA (c3.at (j := 2) rfl) ?_)))))
    refine BC r.Hi r.Lo fun h4 f4 => ⟨_, rfl, ?_⟩
    exact hk h4 (((f1.trans f2).trans f3).trans f4)
   ·rw [e3, Bool.false_and] at hk; exact hk h3 ((f1.trans f2).trans f3)
  ·rw [e2, Bool.false_and] at hk; exact hk h3 ((f1.trans f2).trans f3)
 ·rw [e, Bool.false_and] at hk; exact hk h2 (f1.trans f2)
theorem yd {α : Type} (l : List α) (P : α → Bool) (i : Nat) (hi : i < l.length) : (l.take (i + 1)).any P = ((l.take i).any P || P l[i]) := by
 rw [show l.take (i + 1) = l.take i ++ [l[i]] by rw [List.take_append_getElem], List.any_append]; simp
theorem Ax {α : Type} (l : List α) (P : α → Bool) (i : Nat) (hi : i < l.length) (h : P l[i] = true) : l.any P = true := List.any_eq_true.2 ⟨l[i], List.getElem_mem hi, h⟩
theorem LM [Gh] (l : Sl aJ) (o : bH 6 aJ.vals aJ.ok h l) (F : Value) (P : aJ → Bool) (hF : ∀ h', Fr (fun _ => False) h h' → ∀ (x : aJ) (Q : Value → aB → Prop), (∀ h'', Fr (fun _ => False) h' h'' → Q (.bool (P x)) h'') → my Tryz.prog F #[.agg x.vals.toArray] h' Q)
  (hk : ∀ h', Fr (fun _ => False) h h' → Q (.bool (l.xs.any P)) h') : aD Tryz.prog cR #[.slice l.p l.xs.length l.cap, F] h Q := by
 apply kz
 unfold fI
 apply lQ
 unfold gQ
 have hcap := o.cap
 refine aH.go (fun n st h' => ∃ i : Nat, st = (i : Int) ∧ i ≤ l.xs.length ∧ n = l.xs.length - i ∧ Fr (fun _ => False) h h' ∧ (l.xs.take i).any P = false) l.xs.length ⟨0, rfl, by omega, rfl, Fr.refl _ _, rfl⟩ ?_
 rintro n - h1 ⟨i, rfl, hi, rfl, f1, ha⟩ Kn hK
 unfold cV
 refine ifD (fun e => ?_) fun e => ?_
 ·have hil : i < l.xs.length := by omega
  refine cL (bH.fr0 aJ.ok_fr f1 o) i rfl hil fun ad c _ => ?_
  rw [Int.toNat_natCast]
  refine aG (c.at0 rfl) (aA (c.at (j := 1) rfl) (aA (c.at (j := 2) rfl) (aG (c.at (j := 3) rfl) (aA (c.at (j := 4) rfl) (aA (c.at (j := 5) rfl) ?_)))))
  refine hF h1 f1 l.xs[i] _ fun h2 f2 => ⟨_, rfl, ifB (fun e2 => ⟨_, rfl, ?_⟩) fun e2 => ?_⟩
  ·rw [decide_eq_true (by omega)]
   have := hk h2 (f1.trans f2)
   rw [Ax l.xs P i hil e2] at this; exact this
  ·rw [wr (by omega) (by omega)]
   exact hK (l.xs.length - (i + 1)) _ _ (by omega) ⟨i + 1, rfl, hil, rfl, f1.trans f2, by rw [yd _ _ _ hil, ha, e2]; rfl⟩
 ·have : i = l.xs.length := by omega
  subst this
  rw [List.take_length] at ha
  have := hk h1 f1
  rw [ha] at this
  exact ⟨_, rfl, this⟩
theorem MI [Gh] (l : Sl aP) (o : bH 2 aP.vals aP.ok h l) (F : Value) (P : aP → Bool) (hF : ∀ h', Fr (fun _ => False) h h' → ∀ (x : aP) (Q : Value → aB → Prop), (∀ h'', Fr (fun _ => False) h' h'' → Q (.bool (P x)) h'') → my Tryz.prog F #[.agg x.vals.toArray] h' Q)
  (hk : ∀ h', Fr (fun _ => False) h h' → Q (.bool (l.xs.any P)) h') : aD Tryz.prog cT #[.slice l.p l.xs.length l.cap, F] h Q := by
 apply lr
 unfold gF
 apply ml
 unfold ig
 have hcap := o.cap
 refine aH.go (fun n st h' => ∃ i : Nat, st = (i : Int) ∧ i ≤ l.xs.length ∧ n = l.xs.length - i ∧ Fr (fun _ => False) h h' ∧ (l.xs.take i).any P = false) l.xs.length ⟨0, rfl, by omega, rfl, Fr.refl _ _, rfl⟩ ?_
 rintro n - h1 ⟨i, rfl, hi, rfl, f1, ha⟩ Kn hK
 unfold dO
 refine ifD (fun e => ?_) fun e => ?_
 ·have hil : i < l.xs.length := by omega
  refine cL (bH.fr0 aP.ok_fr f1 o) i rfl hil fun ad c _ => ?_
  rw [Int.toNat_natCast]
  refine aA (c.at0 rfl) (aA (c.at (j := 1) rfl) ?_)
  refine hF h1 f1 l.xs[i] _ fun h2 f2 => ⟨_, rfl, ifB (fun e2 => ⟨_, rfl, ?_⟩) fun e2 => ?_⟩
  ·rw [decide_eq_true (by omega)]
   have := hk h2 (f1.trans f2)
   rw [Ax l.xs P i hil e2] at this; exact this
  ·rw [wr (by omega) (by omega)]
   exact hK (l.xs.length - (i + 1)) _ _ (by omega) ⟨i + 1, rfl, hil, rfl, f1.trans f2, by rw [yd _ _ _ hil, ha, e2]; rfl⟩
 ·have : i = l.xs.length := by omega
  subst this
  rw [List.take_length] at ha
  have := hk h1 f1
  rw [ha] at this
  exact ⟨_, rfl, this⟩
theorem zV [Gh] (l : Sl aJ) (a : aK) (o : bH 6 aJ.vals aJ.ok h l) (hk : ∀ h', Fr (fun _ => False) h h' → Q (.bool (Il l.xs a)) h') : aD Tryz.prog jE #[.slice l.p l.xs.length l.cap, .agg a.vals.toArray] h Q := by
 apply xv
 unfold q6
 unfold Il at hk
 refine aU (vs := a.vals) fun t3 h1 f1 e1 o1 => ?_
 have c1 : aY h1 t3 a.vals := o1.cells
 refine aG (c1.at0 rfl) (aA (c1.at (j := 1) rfl) (aA (c1.at (j := 2) rfl) ?_))
 refine BO a fun h2 f2 => ⟨_, rfl, ifB (fun e => ?_) fun e => ?_⟩
 ·rw [e, Bool.true_and] at hk
  have f12 := f1.trans f2
  have c2 := c1.fr0 f2
  refine LM l (bH.fr0 aJ.ok_fr f12 o) _ (inR a) (fun h3 f3 x K hK => ?_) fun h3 f3 => ⟨_, rfl, hk h3 (f12.trans f3)⟩
  rw [cM]
  show aD Tryz.prog oI #[.agg x.vals.toArray, .pointer (some t3)] h3 K
  apply vI
  unfold pW
  have c3 := c2.fr0 f3
  unfold inR at hK
  refine aU (vs := x.vals) fun t2 h4 f4 e4 o4 => ?_
  have c4 : aY h4 t2 x.vals := o4.cells
  have a4 := c3.fr0 f4
  refine aG (c4.at0 rfl) (aA (c4.at (j := 1) rfl) (aA (c4.at (j := 2) rfl) (aG (c4.at (j := 3) rfl) (aA (c4.at (j := 4) rfl) (aA (c4.at (j := 5) rfl) ?_)))))
  refine LQ x fun h5 f5 => ⟨_, rfl, ifB (fun e5 => ?_) fun e5 => ?_⟩
  ·rw [e5, Bool.true_and] at hK
   have c5 := c4.fr0 f5
   have a5 := a4.fr0 f5
   refine aG (c5.at0 rfl) (aG (a5.at0 rfl) (ifB (fun e6 => ?_) fun e6 => ?_))
   ·rw [e6, Bool.true_and] at hK
    refine aG (c5.at0 rfl) (aA (c5.at (j := 1) rfl) (aA (c5.at (j := 2) rfl) (aG (a5.at0 rfl) (aA (a5.at (j := 1) rfl) (aA (a5.at (j := 2) rfl) ?_)))))
    refine zj x.Lo a fun h6 f6 => ⟨_, rfl, ?_⟩
    rw [Fx]
    have c6 := c5.fr0 f6
    have a6 := a5.fr0 f6
    refine ifB (fun e7 => ?_) fun e7 => ?_
    ·rw [e7, Bool.true_and] at hK
     refine aG (a6.at0 rfl) (aA (a6.at (j := 1) rfl) (aA (a6.at (j := 2) rfl) (aG (c6.at (j := 3) rfl) (aA (c6.at (j := 4) rfl) (aA (c6.at (j := 5) rfl) ?_)))))
     refine zj a x.Hi fun h7 f7 => ⟨_, rfl, ?_⟩
     rw [Fx]
     exact hK h7 (((f4.trans f5).trans f6).trans f7)
    ·rw [e7, Bool.false_and] at hK; exact hK h6 ((f4.trans f5).trans f6)
   ·rw [e6, Bool.false_and] at hK; exact hK h5 (f4.trans f5)
  ·rw [e5, Bool.false_and] at hK; exact hK h5 (f4.trans f5)
 ·rw [e, Bool.false_and] at hk; exact hk h2 (f1.trans f2)
theorem zD [Gh] (l : Sl aP) (n : Int) (o : bH 2 aP.vals aP.ok h l) (hk : ∀ h', Fr (fun _ => False) h h' → Q (.bool (Iv l.xs n)) h') : aD Tryz.prog jg #[.slice l.p l.xs.length l.cap, .int .i64 n] h Q := by
 apply wM
 unfold qt
 unfold Iv at hk
 refine aU (vs := [.int .i64 n]) fun t3 h1 f1 e1 o1 => ?_
 have c1 := o1.cells
 refine aA (c1.at0 rfl) (ifD (fun e => ?_) fun e => ?_)
 ·refine aA (c1.at0 rfl) (ifD (fun e2 => ?_) fun e2 => ?_)
  ·rw [decide_eq_true ⟨by omega, e2⟩, Bool.true_and] at hk
   refine MI l (bH.fr0 aP.ok_fr f1 o) _ _ (fun h3 f3 x K hK => ?_) fun h3 f3 => ⟨_, rfl, hk h3 (f1.trans f3)⟩
   rw [cM]
   show aD Tryz.prog nN #[.agg x.vals.toArray, .pointer (some t3)] h3 K
   apply vh
   unfold oR
   refine aU (vs := x.vals) fun t2 h4 f4 e4 o4 => ?_
   have c4 : aY h4 t2 x.vals := o4.cells
   have a4 := (c1.fr0 f3).fr0 f4
   refine aA (c4.at0 rfl) (aA (a4.at0 rfl) (ifD (fun e5 => ?_) fun e5 => ?_))
   ·rw [decide_eq_true e5, Bool.true_and] at hK
    exact aA (a4.at0 rfl) (aA (c4.at (j := 1) rfl) (hK h4 f4))
   ·rw [decide_eq_false e5, Bool.false_and] at hK; exact hK h4 f4
  ·rw [decide_eq_false (fun hh => e2 hh.2), Bool.false_and] at hk; exact hk h1 f1
 ·rw [decide_eq_false (fun hh => e hh.1), Bool.false_and] at hk; exact hk h1 f1
theorem zH [Gh] (l : Sl aJ) (a : aK) (o : bH 6 aJ.vals aJ.ok h l) (hk : ∀ h', Fr (fun _ => False) h h' → Q (.bool (Il l.xs a)) h') : aD Tryz.prog ll #[.slice l.p l.xs.length l.cap, .agg a.vals.toArray] h Q := by
 apply zd
 unfold tj
 unfold Il at hk
 have hcap := o.cap
 refine aU (vs := a.vals) fun t3 h0 f0 e0 o0 => ?_
 have c0 : aY h0 t3 a.vals := o0.cells
 refine aH.go (fun n st h' => ∃ i : Nat, st = (i : Int) ∧ i ≤ l.xs.length ∧ n = l.xs.length - i ∧ Fr (fun _ => False) h0 h' ∧ (ur a && (l.xs.take i).any (inR a)) = false) l.xs.length ⟨0, rfl, by omega, rfl, Fr.refl _ _, by simp⟩ ?_
 rintro n - h1 ⟨i, rfl, hi, rfl, f1, ha⟩ Kn hK
 unfold np
 refine ifD (fun e => ?_) fun e => ?_
 ·have hil : i < l.xs.length := by omega
  have f01 := f0.trans f1
  have a1 := c0.fr0 f1
  have nx : ∀ h', Fr (fun _ => False) h1 h' → (ur a && inR a l.xs[i]) = false → Kn (wrap .i64 ((i : Int) + 1)) h' := fun h' f hn => by
   rw [wr (by omega) (by omega)]
   exact hK (l.xs.length - (i + 1)) _ _ (by omega) ⟨i + 1, rfl, hil, rfl, f1.trans f, by rw [yd _ _ _ hil, Bool.and_or_distrib_left, ha, hn]; rfl⟩
  have rd : ∀ {h' : aB}, Fr (fun _ => False) h1 h' → ∀ {K : Addr → Prop}, (∀ ad, aY h' (ad.add (i * 6)) (aJ.vals l.xs[i]) → K ad) → bO (i : Int) l.xs.length (nn l.p fun a => K a) := fun f K hk => cL (bH.fr0 aJ.ok_fr (f01.trans f) o) i rfl hil fun ad c _ => hk ad c
  refine aG (a1.at0 rfl) (aA (a1.at (j := 1) rfl) (aA (a1.at (j := 2) rfl) ?_))
  refine Ge a fun h2 f2 => ⟨_, rfl, ifB (fun e2 => ?_) fun e2 => nx h2 f2 (by rw [e2]; rfl)⟩
  rw [e2] at ha nx
  refine rd f2 fun ad c => ?_
  rw [Int.toNat_natCast]
  refine aG (c.at0 rfl) (aA (c.at (j := 1) rfl) (aA (c.at (j := 2) rfl) (aG (c.at (j := 3) rfl) (aA (c.at (j := 4) rfl) (aA (c.at (j := 5) rfl) ?_)))))
  refine Kx l.xs[i] fun h3 f3 => ⟨_, rfl, ifB (fun e3 => ?_) fun e3 => nx h3 (f2.trans f3) (by unfold inR; rw [e3]; rfl)⟩
  have f13 := f2.trans f3
  have a3 := a1.fr0 f13
  refine rd f13 fun ad c => aG (c.at0 rfl) (aG (a3.at0 rfl) (ifB (fun e4 => ?_) fun e4 => nx h3 f13 (by unfold inR; rw [e3, e4]; rfl)))
  refine aG (a3.at0 rfl) (aA (a3.at (j := 1) rfl) (aA (a3.at (j := 2) rfl) (rd f13 fun ad c => aG (c.at0 rfl) (aA (c.at (j := 1) rfl) (aA (c.at (j := 2) rfl) ?_)))))
  refine BC a l.xs[i].Lo fun h4 f4 => ⟨_, rfl, ifN (fun e5 => ?_) fun e5 => nx h4 (f13.trans f4) (by unfold inR; rw [e3, e4, e5]; rfl)⟩
  have f14 := f13.trans f4
  have a4 := a1.fr0 f14
  refine rd f14 fun ad c => aG (c.at (j := 3) rfl) (aA (c.at (j := 4) rfl) (aA (c.at (j := 5) rfl) (aG (a4.at0 rfl) (aA (a4.at (j := 1) rfl) (aA (a4.at (j := 2) rfl) ?_)))))
  refine BC l.xs[i].Hi a fun h5 f5 => ⟨_, rfl, ifN (fun e6 => ?_) fun e6 => nx h5 (f14.trans f5) (by unfold inR; rw [e3, e4, e5, e6]; rfl)⟩
  have := hk h5 (f01.trans (f14.trans f5))
  rw [e2, Ax l.xs (inR a) i hil (by unfold inR; rw [e3, e4, e5, e6]; rfl)] at this
  exact this
 ·have : i = l.xs.length := by omega
  subst this
  rw [List.take_length] at ha
  have := hk h1 (f0.trans f1)
  rw [ha] at this; exact this
theorem yK [Gh] (l : Sl aP) (n : Int) (o : bH 2 aP.vals aP.ok h l) (hk : Q (.bool (Iv l.xs n)) h) : aD Tryz.prog lj #[.slice l.p l.xs.length l.cap, .int .i64 n] h Q := by
 apply yW
 unfold tB
 unfold Iv at hk
 have hcap := o.cap
 refine ifD (fun e => ?_) fun e => ifD (fun e2 => ?_) fun e2 => ?_
 ·rw [decide_eq_false (by omega), Bool.false_and] at hk; exact hk
 ·rw [decide_eq_false (by omega), Bool.false_and] at hk; exact hk
 rw [decide_eq_true ⟨by omega, by omega⟩, Bool.true_and] at hk
 refine aH.go (fun m st h' => ∃ i : Nat, st = (i : Int) ∧ i ≤ l.xs.length ∧ m = l.xs.length - i ∧ h' = h ∧ (l.xs.take i).any (fun x => decide (x.Lo ≤ n) && decide (n ≤ x.Hi)) = false) l.xs.length ⟨0, rfl, by omega, rfl, rfl, rfl⟩ ?_
 rintro m - h1 ⟨i, rfl, hi, rfl, rfl, ha⟩ Kn hK
 unfold oj
 refine ifD (fun e => ?_) fun e => ?_
 ·have hil : i < l.xs.length := by omega
  have nx : (decide (l.xs[i].Lo ≤ n) && decide (n ≤ l.xs[i].Hi)) = false → Kn (wrap .i64 ((i : Int) + 1)) h1 := fun hn => by
   rw [wr (by omega) (by omega)]
   exact hK (l.xs.length - (i + 1)) _ _ (by omega) ⟨i + 1, rfl, hil, rfl, rfl, by rw [yd _ _ _ hil, ha, hn]; rfl⟩
  refine cL o i rfl hil fun ad c _ => ?_
  rw [Int.toNat_natCast]
  refine aA (c.at0 rfl) (ifD (fun e3 => ?_) fun e3 => nx (by rw [decide_eq_false e3]; rfl))
  refine cL o i rfl hil fun ad c _ => aA (c.at (j := 1) rfl) (ifD (fun e4 => ?_) fun e4 => nx (by rw [decide_eq_false e4, Bool.and_false]))
  rw [Ax l.xs _ i hil (by rw [decide_eq_true e3, decide_eq_true e4]; rfl)] at hk
  exact hk
 ·have : i = l.xs.length := by omega
  subst this
  rw [List.take_length] at ha
  rw [ha] at hk; exact hk
end
end Go.Proofs.YtjmfpeiidlpngaaGreatDoor.Au
namespace Go.Proofs.YtjmfpeiidlpngaaGreatDoor.Au
set_option linter.unusedSimpArgs false
set_option linter.unusedVariables false
set_option maxRecDepth 20000
open Go
open Go.IntKind (wrap)
section
variable {h : aB} {Q : Value → aB → Prop}
theorem JO [Gh] (b : aE) (s d : aK) (sp dp : Int) {t4 : Addr} (cb : aY h t4 b.vals) (ok : aE.ok h b) (hk : ∀ h', Fr (fun _ => False) h h' → Q (.bool (zG b s d sp dp)) h') :
  aD Tryz.prog im #[.agg s.vals.toArray, .agg d.vals.toArray, .int .i64 sp, .int .i64 dp, .pointer (some t4)] h Q := by
 apply vd
 unfold oE
 unfold zG at hk
 refine aU (vs := s.vals) fun t5 h1 f1 e1 o1 => aU (vs := d.vals) fun t6 h2 f2 e2 o2 => ?_
 have f12 := f1.trans f2
 have cs : aY h2 t5 s.vals := o1.cells.fr0 f2
 have cd : aY h2 t6 d.vals := o2.cells
 have c2 := cb.fr0 f12
 have k2 := aE.ok_fr _ _ _ f12 ok
 refine aC (c2.at (j := 21) rfl) (aG (cs.at0 rfl) (aA (cs.at (j := 1) rfl) (aA (cs.at (j := 2) rfl) ?_)))
 refine zV b.Src s k2.k1 fun h3 f3 => ⟨_, rfl, ifB (fun e => ?_) fun e => ?_⟩
 ·rw [e, Bool.true_and] at hk
  have c3 := c2.fr0 f3
  have k3 := aE.ok_fr _ _ _ f3 k2
  refine aC (c3.at (j := 23) rfl) (zD b.SrcPorts sp k3.k3 fun h4 f4 => ⟨_, rfl, ifB (fun e2 => ?_) fun e2 => ?_⟩)
  ·rw [e2, Bool.true_and] at hk
   have c4 := c3.fr0 f4
   have k4 := aE.ok_fr _ _ _ f4 k3
   have cd4 := (cd.fr0 f3).fr0 f4
   refine aC (c4.at (j := 22) rfl) (aG (cd4.at0 rfl) (aA (cd4.at (j := 1) rfl) (aA (cd4.at (j := 2) rfl) ?_)))
   refine zV b.Dst d k4.k2 fun h5 f5 => ⟨_, rfl, ifB (fun e3 => ?_) fun e3 => ?_⟩
   ·rw [e3, Bool.true_and] at hk
    have c5 := c4.fr0 f5
    have k5 := aE.ok_fr _ _ _ f5 k4
    exact aC (c5.at (j := 24) rfl) (zD b.DstPorts dp k5.k4 fun h6 f6 => ⟨_, rfl, hk h6 ((((f12.trans f3).trans f4).trans f5).trans f6)⟩)
   ·rw [e3, Bool.false_and] at hk; exact hk h5 (((f12.trans f3).trans f4).trans f5)
  ·rw [e2, Bool.false_and] at hk; exact hk h4 ((f12.trans f3).trans f4)
 ·rw [e, Bool.false_and] at hk; exact hk h3 (f12.trans f3)
theorem G8 [Gh] (b : aE) (f : aR) (ok : aE.ok h b) (hk : ∀ h', Fr (fun _ => False) h h' → Q (.bool (zG b f.Src f.Dst f.Sport f.Dport)) h') :
  aD Tryz.prog pC #[.agg b.vals.toArray, .agg f.vals.toArray] h Q := by
 apply DU
 unfold yv
 unfold zG at hk
 refine aU (vs := b.vals) fun t2 h1 f1 e1 o1 => aU (vs := f.vals) fun t3 h2 f2 e2 o2 => ?_
 have f12 := f1.trans f2
 have c2 : aY h2 t2 b.vals := o1.cells.fr0 f2
 have cf : aY h2 t3 f.vals := o2.cells
 have k2 := aE.ok_fr _ _ _ f12 ok
 refine aC (c2.at (j := 21) rfl) (aG (cf.at (j := 1) rfl) (aA (cf.at (j := 2) rfl) (aA (cf.at (j := 3) rfl) ?_)))
 refine zH b.Src f.Src k2.k1 fun h3 f3 => ⟨_, rfl, ifB (fun e => ?_) fun e => ?_⟩
 ·rw [e, Bool.true_and] at hk
  have c3 := c2.fr0 f3
  have cf3 := cf.fr0 f3
  have k3 := aE.ok_fr _ _ _ f3 k2
  refine aC (c3.at (j := 23) rfl) (aA (cf3.at (j := 7) rfl) (yK b.SrcPorts f.Sport k3.k3 ⟨_, rfl, ifB (fun e2 => ?_) fun e2 => ?_⟩))
  ·rw [e2, Bool.true_and] at hk
   refine aC (c3.at (j := 22) rfl) (aG (cf3.at (j := 4) rfl) (aA (cf3.at (j := 5) rfl) (aA (cf3.at (j := 6) rfl) ?_)))
   refine zH b.Dst f.Dst k3.k2 fun h5 f5 => ⟨_, rfl, ifB (fun e3 => ?_) fun e3 => ?_⟩
   ·rw [e3, Bool.true_and] at hk
    have c5 := c3.fr0 f5
    have k5 := aE.ok_fr _ _ _ f5 k3
    exact aC (c5.at (j := 24) rfl) (aA ((cf3.fr0 f5).at (j := 8) rfl) (yK b.DstPorts f.Dport k5.k4 ⟨_, rfl, hk h5 ((f12.trans f3).trans f5)⟩))
   ·rw [e3, Bool.false_and] at hk; exact hk h5 ((f12.trans f3).trans f5)
  ·rw [e2, Bool.false_and] at hk; exact hk h3 (f12.trans f3)
 ·rw [e, Bool.false_and] at hk; exact hk h3 (f12.trans f3)
theorem LE {b : aE} {f : aR} {dir : Int} (h : ¬ (b.Rule.Proto = f.Proto ∧ (dir = 1 ∨ dir = 2) ∧ (b.Rule.Dir = 0 ∨ b.Rule.Dir = dir))) : eE b f dir = false := by
 unfold eE; rw [decide_eq_false h]; rfl
theorem Jz {b : aE} {f : aR} {dir : Int} (h : b.Rule.Proto = f.Proto ∧ (dir = 1 ∨ dir = 2) ∧ (b.Rule.Dir = 0 ∨ b.Rule.Dir = dir)) : eE b f dir = (zG b f.Src f.Dst f.Sport f.Dport || (b.Rule.Both && zG b f.Dst f.Src f.Dport f.Sport)) := by
 unfold eE; rw [decide_eq_true h]; rfl
theorem CZ [Gh] (b : aE) (f : aR) (dir : Int) (ok : aE.ok h b) (hk : ∀ h', Fr (fun _ => False) h h' → Q (.bool (eE b f dir)) h') :
  aD Tryz.prog jm #[.agg b.vals.toArray, .agg f.vals.toArray, .int .i64 dir] h Q := by
 apply wK
 unfold qy
 refine aU (vs := b.vals) fun t3 h1 f1 e1 o1 => aU (vs := f.vals) fun t4 h2 f2 e2 o2 => ?_
 have f12 := f1.trans f2
 have cb : aY h2 t3 b.vals := o1.cells.fr0 f2
 have cf : aY h2 t4 f.vals := o2.cells
 refine (aA (cb.at0 rfl) (aA (cb.at rfl) (aC (cb.at rfl) (aC (cb.at rfl) (aC (cb.at rfl) (aC (cb.at rfl) (aG (cb.at rfl) (aA (cb.at rfl) (aA (cb.at rfl) (aA (cb.at rfl) (aT (cb.at rfl) (aA (cb.at rfl) (aA (cb.at rfl) (aC (cb.at rfl) (aC (cb.at rfl) (aC (cb.at rfl) (aC (cb.at rfl) (aA (cb.at rfl) (aA (cb.at rfl) (aA (cb.at rfl) (aA (cb.at rfl) ?_)))))))))))))))))))))
 refine aU (vs := [.int .i64 0, .int .i64 0, .slice none 0 0, .slice none 0 0, .slice none 0 0, .slice none 0 0, .bool false, .int .i64 0, .int .i64 0, .int .i64 0, .string (bs []), .int .i64 0, .int .i64 0, .slice none 0 0, .slice none 0 0, .slice none 0 0, .slice none 0 0, .int .i64 0, .int .i64 0, .int .i64 0, .int .i64 0]) fun t7 h3 f3 e3 o3 => ?_
 refine jt o3 (ws := b.Rule.vals) (by rfl) (by rfl) fun h4 f4 s4 o4 => ?_
 have f24 : Fr (fun _ => False) h2 h4 := f3.tr f4 fun x hx hh => by omega
 have f14 := f12.trans f24
 have cb4 := cb.fr0 f24
 have cf4 := cf.fr0 f24
 have cr : aY h4 t7 b.Rule.vals := o4.cells
 have k4 := aE.ok_fr _ _ _ f14 ok
 have no : ¬ (b.Rule.Proto = f.Proto ∧ (dir = 1 ∨ dir = 2) ∧ (b.Rule.Dir = 0 ∨ b.Rule.Dir = dir)) → Q (.bool false) h4 := fun hn => by
  have := hk h4 f14
  rw [LE hn] at this; exact this
 have b1 : b.Rule.Proto = f.Proto → (dir = 1 ∨ dir = 2) → (b.Rule.Dir = 0 ∨ b.Rule.Dir = dir) → cZ t4 t7 t3 Q h4 := fun q1 q2 q3 => by
  rw [Jz ⟨q1, q2, q3⟩] at hk
  unfold cZ
  refine aG (cf4.at (j := 1) rfl) (aA (cf4.at (j := 2) rfl) (aA (cf4.at (j := 3) rfl) (aG (cf4.at (j := 4) rfl) (aA (cf4.at (j := 5) rfl) (aA (cf4.at (j := 6) rfl) (aA (cf4.at (j := 7) rfl) (aA (cf4.at (j := 8) rfl) ?_)))))))
  refine JO b f.Src f.Dst f.Sport f.Dport cb4 k4 fun h5 f5 => ⟨_, rfl, ifB (fun e => ?_) fun e => ?_⟩
  ·have := hk h5 (f14.trans f5)
   rw [e] at this; exact this
  ·rw [e, Bool.false_or] at hk
   have cr5 := cr.fr0 f5
   have cf5 := cf4.fr0 f5
   have cb5 := cb4.fr0 f5
   have k5 := aE.ok_fr _ _ _ f5 k4
   refine aG (cr5.at (j := 6) rfl) (ifB (fun e2 => ?_) fun e2 => ?_)
   ·rw [e2, Bool.true_and] at hk
    refine aG (cf5.at (j := 4) rfl) (aA (cf5.at (j := 5) rfl) (aA (cf5.at (j := 6) rfl) (aG (cf5.at (j := 1) rfl) (aA (cf5.at (j := 2) rfl) (aA (cf5.at (j := 3) rfl) (aA (cf5.at (j := 8) rfl) (aA (cf5.at (j := 7) rfl) ?_)))))))
    exact JO b f.Dst f.Src f.Dport f.Sport cb5 k5 fun h6 f6 => ⟨_, rfl, hk h6 ((f14.trans f5).trans f6)⟩
   ·rw [e2, Bool.false_and] at hk; exact hk h5 (f14.trans f5)
 refine aA (cr.at (j := 1) rfl) (aA (cf4.at0 rfl) (lu (fun e => no fun hh => e hh.1) fun q1 => ?_))
 refine lu (fun d1 => lu (fun d2 => no fun hh => hh.2.1.elim d1 d2) fun d2 => ?_) fun d1 => ?_
 ·refine aA (cr.at (j := 11) rfl) (lu (fun e2 => aA (cr.at (j := 11) rfl) (lu (fun e3 => no fun hh => hh.2.2.elim e2 e3) fun e3 => b1 q1 (.inr d2) (.inr e3))) fun e2 => b1 q1 (.inr d2) (.inl e2))
 ·refine aA (cr.at (j := 11) rfl) (lu (fun e2 => aA (cr.at (j := 11) rfl) (lu (fun e3 => no fun hh => hh.2.2.elim e2 e3) fun e3 => b1 q1 (.inl d1) (.inr e3))) fun e2 => b1 q1 (.inl d1) (.inl e2))
theorem B2 [Gh] (b : aE) (f : aR) (dir : Int) (ok : aE.ok h b) (hk : ∀ h', Fr (fun _ => False) h h' → Q (.bool (eE b f dir)) h') :
  aD Tryz.prog ma #[.agg b.vals.toArray, .agg f.vals.toArray, .int .i64 dir] h Q := by
 apply Ao
 unfold u2
 refine aU (vs := b.vals) fun t3 h1 f1 e1 o1 => aU (vs := f.vals) fun t4 h2 f2 e2 o2 => ?_
 have f12 := f1.trans f2
 have cb : aY h2 t3 b.vals := o1.cells.fr0 f2
 have cf : aY h2 t4 f.vals := o2.cells
 have k2 := aE.ok_fr _ _ _ f12 ok
 have no : ¬ (b.Rule.Proto = f.Proto ∧ (dir = 1 ∨ dir = 2) ∧ (b.Rule.Dir = 0 ∨ b.Rule.Dir = dir)) → Q (.bool false) h2 := fun hn => by
  have := hk h2 f12
  rw [LE hn] at this; exact this
 have b1 : b.Rule.Proto = f.Proto → (dir = 1 ∨ dir = 2) → (b.Rule.Dir = 0 ∨ b.Rule.Dir = dir) → gD t3 t4 Q h2 := fun q1 q2 q3 => by
  rw [Jz ⟨q1, q2, q3⟩] at hk
  unfold gD
  refine (aA (cb.at0 rfl) (aA (cb.at rfl) (aC (cb.at rfl) (aC (cb.at rfl) (aC (cb.at rfl) (aC (cb.at rfl) (aG (cb.at rfl) (aA (cb.at rfl) (aA (cb.at rfl) (aA (cb.at rfl) (aT (cb.at rfl) (aA (cb.at rfl) (aA (cb.at rfl) (aC (cb.at rfl) (aC (cb.at rfl) (aC (cb.at rfl) (aC (cb.at rfl) (aA (cb.at rfl) (aA (cb.at rfl) (aA (cb.at rfl) (aA (cb.at rfl) (aC (cb.at rfl) (aC (cb.at rfl) (aC (cb.at rfl) (aC (cb.at rfl) ?_)))))))))))))))))))))))))
  refine (aA (cf.at0 rfl) (aG (cf.at rfl) (aA (cf.at rfl) (aA (cf.at rfl) (aG (cf.at rfl) (aA (cf.at rfl) (aA (cf.at rfl) (aA (cf.at rfl) (aA (cf.at rfl) ?_)))))))))
  refine G8 b f k2 fun h5 f5 => ⟨_, rfl, ifB (fun e => ?_) fun e => ?_⟩
  ·have := hk h5 (f12.trans f5)
   rw [e] at this; exact this
  ·rw [e, Bool.false_or] at hk
   have cf5 := cf.fr0 f5
   have cb5 := cb.fr0 f5
   have k5 := aE.ok_fr _ _ _ f5 k2
   refine aG (cb5.at (j := 6) rfl) (ifB (fun e2 => ?_) fun e2 => ?_)
   ·rw [e2, Bool.true_and] at hk
    refine (aA (cb5.at0 rfl) (aA (cb5.at rfl) (aC (cb5.at rfl) (aC (cb5.at rfl) (aC (cb5.at rfl) (aC (cb5.at rfl) (aG (cb5.at rfl) (aA (cb5.at rfl) (aA (cb5.at rfl) (aA (cb5.at rfl) (aT (cb5.at rfl) (aA (cb5.at rfl) (aA (cb5.at rfl) (aC (cb5.at rfl) (aC (cb5.at rfl) (aC (cb5.at rfl) (aC (cb5.at rfl) (aA (cb5.at rfl) (aA (cb5.at rfl) (aA (cb5.at rfl) (aA (cb5.at rfl) (aC (cb5.at rfl) (aC (cb5.at rfl) (aC (cb5.at rfl) (aC (cb5.at rfl) ?_)))))))))))))))))))))))))
    refine aA (cf5.at0 rfl) (aG (cf5.at (j := 4) rfl) (aA (cf5.at (j := 5) rfl) (aA (cf5.at (j := 6) rfl) (aG (cf5.at (j := 1) rfl) (aA (cf5.at (j := 2) rfl) (aA (cf5.at (j := 3) rfl) (aA (cf5.at (j := 8) rfl) (aA (cf5.at (j := 7) rfl) ?_))))))))
    exact G8 b ⟨f.Proto, f.Dst, f.Src, f.Dport, f.Sport⟩ k5 fun h6 f6 => ⟨_, rfl, hk h6 ((f12.trans f5).trans f6)⟩
   ·rw [e2, Bool.false_and] at hk; exact hk h5 (f12.trans f5)
 refine aA (cb.at (j := 1) rfl) (aA (cf.at0 rfl) (lu (fun e => no fun hh => e hh.1) fun q1 => ?_))
 refine lu (fun d1 => lu (fun d2 => no fun hh => hh.2.1.elim d1 d2) fun d2 => ?_) fun d1 => ?_
 ·refine aA (cb.at (j := 11) rfl) (lu (fun e2 => aA (cb.at (j := 11) rfl) (lu (fun e3 => no fun hh => hh.2.2.elim e2 e3) fun e3 => b1 q1 (.inr d2) (.inr e3))) fun e2 => b1 q1 (.inr d2) (.inl e2))
 ·refine aA (cb.at (j := 11) rfl) (lu (fun e2 => aA (cb.at (j := 11) rfl) (lu (fun e3 => no fun hh => hh.2.2.elim e2 e3) fun e3 => b1 q1 (.inl d1) (.inr e3))) fun e2 => b1 q1 (.inl d1) (.inl e2))
end
end Go.Proofs.YtjmfpeiidlpngaaGreatDoor.Au
namespace Go.Proofs.YtjmfpeiidlpngaaGreatDoor
set_option linter.unusedSimpArgs false
set_option linter.unusedVariables false
set_option maxRecDepth 20000
open Go
open Go.IntKind (wrap)
theorem EJ : gU Tryz.prog lb rr Tryz.t139 (.agg #[.bool false, .string (bs []), .bool false, .int .u64 0, .int .u64 0, .int .i64 0]) := ⟨Tryz.underlying53, by kernel_rfl, by kernel_rfl, by kernel_rfl, by decide +kernel⟩
theorem nT (x : aN) : (aN.vals x).length = 6 := rfl
theorem Cz (x : aN) : (aN.vals x).all eH = true := rfl
theorem uQ [Gh] (s : Sl aN) {h : aB} (os : bH 6 aN.vals aN.ok h s) (hl : s.xs.length ≤ 2 ^ 20) {Q : Value → aB → Prop}
  (hk : ∀ p' c' h', Fr (fun _ => False) h h' → Row 6 aN.vals h' p' c' s.xs → (∀ x, InA p' x → h.size ≤ x) → Q (.slice p' s.xs.length c') h') :
  aD Tryz.prog cC #[.slice s.p s.xs.length s.cap] h Q := by
 apply kX
 unfold fQ
 cases hp : s.p with
 | none =>
  rw [if_pos (by rfl)]
  have he : s.xs = [] := by
   cases hx : s.xs with
   | nil => rfl
   | cons a l =>
    obtain ⟨ad, h1, _⟩ := os.at_ 0 (by rw [hx]; simp)
    rw [hp] at h1; cases h1
  have := hk none 0 h (Fr.refl _ _) (by rw [he]; exact Row.nil) fun x hx => (cU hx).elim
  rw [he] at this; exact this
 | some ad =>
  rw [if_neg (by simp)]
  refine aU (vs := []) fun t5 h1 f1 e1 o1 => ?_
  have z1 := f1.size
  have R0 : Row 6 aN.vals h1 (some t5) 0 [] := Row.of_own (L := []) nT o1
  have src := (bH.fr0 aN.ok_fr f1 os).src nT
  rw [hp] at src
  refine R0.appL EJ Tryz.underlying53 (by intro k e; cases e) (by kernel_rfl) (by decide +kernel) nT Cz src (by simp; omega) fun p' cap' h' R' f hn => ⟨_, _, _, rfl, ?_⟩
  refine hk p' cap' h' (f1.tr f fun x hx hh => ?_) R' fun x hx => ?_
  ·obtain ⟨a', h1, h2⟩ := hh; cases h1; omega
  ·rcases hn x hx with hh | hh
   ·obtain ⟨a', h1, h2⟩ := hh; cases h1; omega
   ·omega
theorem Fq : gU Tryz.prog lg nj Tryz.t142 (.agg #[.bool false, .string (bs []), .int .i64 0, .int .i64 0]) := ⟨Tryz.underlying54, by kernel_rfl, by kernel_rfl, by kernel_rfl, by decide +kernel⟩
theorem nK (x : aM) : (aM.vals x).length = 4 := rfl
theorem Cq (x : aM) : (aM.vals x).all eH = true := rfl
theorem uF [Gh] (s : Sl aM) {h : aB} (os : bH 4 aM.vals aM.ok h s) (hl : s.xs.length ≤ 2 ^ 20) {Q : Value → aB → Prop}
  (hk : ∀ p' c' h', Fr (fun _ => False) h h' → Row 4 aM.vals h' p' c' s.xs → (∀ x, InA p' x → h.size ≤ x) → Q (.slice p' s.xs.length c') h') :
  aD Tryz.prog cB #[.slice s.p s.xs.length s.cap] h Q := by
 apply kU
 unfold fN
 cases hp : s.p with
 | none =>
  rw [if_pos (by rfl)]
  have he : s.xs = [] := by
   cases hx : s.xs with
   | nil => rfl
   | cons a l =>
    obtain ⟨ad, h1, _⟩ := os.at_ 0 (by rw [hx]; simp)
    rw [hp] at h1; cases h1
  have := hk none 0 h (Fr.refl _ _) (by rw [he]; exact Row.nil) fun x hx => (cU hx).elim
  rw [he] at this; exact this
 | some ad =>
  rw [if_neg (by simp)]
  refine aU (vs := []) fun t5 h1 f1 e1 o1 => ?_
  have z1 := f1.size
  have R0 : Row 4 aM.vals h1 (some t5) 0 [] := Row.of_own (L := []) nK o1
  have src := (bH.fr0 aM.ok_fr f1 os).src nK
  rw [hp] at src
  refine R0.appL Fq Tryz.underlying54 (by intro k e; cases e) (by kernel_rfl) (by decide +kernel) nK Cq src (by simp; omega) fun p' cap' h' R' f hn => ⟨_, _, _, rfl, ?_⟩
  refine hk p' cap' h' (f1.tr f fun x hx hh => ?_) R' fun x hx => ?_
  ·obtain ⟨a', h1, h2⟩ := hh; cases h1; omega
  ·rcases hn x hx with hh | hh
   ·obtain ⟨a', h1, h2⟩ := hh; cases h1; omega
   ·omega
theorem Fz : gU Tryz.prog lW ei Tryz.t133 (.agg #[.string (bs []), .bool false, .bool false, .bool false, .int .i64 0, .int .i64 0, .bool false]) := ⟨Tryz.underlying55, by kernel_rfl, by kernel_rfl, by kernel_rfl, by decide +kernel⟩
theorem sb (x : aI) : (aI.vals x).length = 7 := rfl
theorem D3 (x : aI) : (aI.vals x).all eH = true := rfl
theorem AZ [Gh] (s : Sl aI) {h : aB} (os : bH 7 aI.vals aI.ok h s) (hl : s.xs.length ≤ 2 ^ 20) {Q : Value → aB → Prop}
  (hk : ∀ p' c' h', Fr (fun _ => False) h h' → Row 7 aI.vals h' p' c' s.xs → (∀ x, InA p' x → h.size ≤ x) → Q (.slice p' s.xs.length c') h') :
  aD Tryz.prog cW #[.slice s.p s.xs.length s.cap] h Q := by
 apply lG
 unfold gO
 cases hp : s.p with
 | none =>
  rw [if_pos (by rfl)]
  have he : s.xs = [] := by
   cases hx : s.xs with
   | nil => rfl
   | cons a l =>
    obtain ⟨ad, h1, _⟩ := os.at_ 0 (by rw [hx]; simp)
    rw [hp] at h1; cases h1
  have := hk none 0 h (Fr.refl _ _) (by rw [he]; exact Row.nil) fun x hx => (cU hx).elim
  rw [he] at this; exact this
 | some ad =>
  rw [if_neg (by simp)]
  refine aU (vs := []) fun t5 h1 f1 e1 o1 => ?_
  have z1 := f1.size
  have R0 : Row 7 aI.vals h1 (some t5) 0 [] := Row.of_own (L := []) sb o1
  have src := (bH.fr0 aI.ok_fr f1 os).src sb
  rw [hp] at src
  refine R0.appL Fz Tryz.underlying55 (by intro k e; cases e) (by kernel_rfl) (by decide +kernel) sb D3 src (by simp; omega) fun p' cap' h' R' f hn => ⟨_, _, _, rfl, ?_⟩
  refine hk p' cap' h' (f1.tr f fun x hx hh => ?_) R' fun x hx => ?_
  ·obtain ⟨a', h1, h2⟩ := hh; cases h1; omega
  ·rcases hn x hx with hh | hh
   ·obtain ⟨a', h1, h2⟩ := hh; cases h1; omega
   ·omega
theorem Lw : gU Tryz.prog pI uq Tryz.t146 (.agg #[.int .i64 0, .int .i64 0, .int .i64 0, .int .i64 0, .bool false, .bool false, .bool false]) := ⟨Tryz.underlying56, by kernel_rfl, by kernel_rfl, by kernel_rfl, by decide +kernel⟩
theorem ym (x : bL) : (bL.vals x).length = 7 := rfl
theorem HY (x : bL) : (bL.vals x).all eH = true := rfl
theorem Ex [Gh] (s : Sl bL) {h : aB} (os : bH 7 bL.vals bL.ok h s) (hl : s.xs.length ≤ 2 ^ 20) {Q : Value → aB → Prop}
  (hk : ∀ p' c' h', Fr (fun _ => False) h h' → Row 7 bL.vals h' p' c' s.xs → (∀ x, InA p' x → h.size ≤ x) → Q (.slice p' s.xs.length c') h') :
  aD Tryz.prog eN #[.slice s.p s.xs.length s.cap] h Q := by
 apply ni
 unfold ji
 cases hp : s.p with
 | none =>
  rw [if_pos (by rfl)]
  have he : s.xs = [] := by
   cases hx : s.xs with
   | nil => rfl
   | cons a l =>
    obtain ⟨ad, h1, _⟩ := os.at_ 0 (by rw [hx]; simp)
    rw [hp] at h1; cases h1
  have := hk none 0 h (Fr.refl _ _) (by rw [he]; exact Row.nil) fun x hx => (cU hx).elim
  rw [he] at this; exact this
 | some ad =>
  rw [if_neg (by simp)]
  refine aU (vs := []) fun t5 h1 f1 e1 o1 => ?_
  have z1 := f1.size
  have R0 : Row 7 bL.vals h1 (some t5) 0 [] := Row.of_own (L := []) ym o1
  have src := (bH.fr0 bL.ok_fr f1 os).src ym
  rw [hp] at src
  refine R0.appL Lw Tryz.underlying56 (by intro k e; cases e) (by kernel_rfl) (by decide +kernel) ym HY src (by simp; omega) fun p' cap' h' R' f hn => ⟨_, _, _, rfl, ?_⟩
  refine hk p' cap' h' (f1.tr f fun x hx hh => ?_) R' fun x hx => ?_
  ·obtain ⟨a', h1, h2⟩ := hh; cases h1; omega
  ·rcases hn x hx with hh | hh
   ·obtain ⟨a', h1, h2⟩ := hh; cases h1; omega
   ·omega
theorem HU : gU Tryz.prog mG tY Tryz.t149 (.agg #[.int .i64 0, .string (bs [])]) := ⟨Tryz.underlying57, by kernel_rfl, by kernel_rfl, by kernel_rfl, by decide +kernel⟩
theorem tZ (x : aZ) : (aZ.vals x).length = 2 := rfl
theorem Eq (x : aZ) : (aZ.vals x).all eH = true := rfl
theorem Ca [Gh] (s : Sl aZ) {h : aB} (os : bH 2 aZ.vals aZ.ok h s) (hl : s.xs.length ≤ 2 ^ 20) {Q : Value → aB → Prop}
  (hk : ∀ p' c' h', Fr (fun _ => False) h h' → Row 2 aZ.vals h' p' c' s.xs → (∀ x, InA p' x → h.size ≤ x) → Q (.slice p' s.xs.length c') h') :
  aD Tryz.prog dQ #[.slice s.p s.xs.length s.cap] h Q := by
 apply mn
 unfold ij
 cases hp : s.p with
 | none =>
  rw [if_pos (by rfl)]
  have he : s.xs = [] := by
   cases hx : s.xs with
   | nil => rfl
   | cons a l =>
    obtain ⟨ad, h1, _⟩ := os.at_ 0 (by rw [hx]; simp)
    rw [hp] at h1; cases h1
  have := hk none 0 h (Fr.refl _ _) (by rw [he]; exact Row.nil) fun x hx => (cU hx).elim
  rw [he] at this; exact this
 | some ad =>
  rw [if_neg (by simp)]
  refine aU (vs := []) fun t5 h1 f1 e1 o1 => ?_
  have z1 := f1.size
  have R0 : Row 2 aZ.vals h1 (some t5) 0 [] := Row.of_own (L := []) tZ o1
  have src := (bH.fr0 aZ.ok_fr f1 os).src tZ
  rw [hp] at src
  refine R0.appL HU Tryz.underlying57 (by intro k e; cases e) (by kernel_rfl) (by decide +kernel) tZ Eq src (by simp; omega) fun p' cap' h' R' f hn => ⟨_, _, _, rfl, ?_⟩
  refine hk p' cap' h' (f1.tr f fun x hx hh => ?_) R' fun x hx => ?_
  ·obtain ⟨a', h1, h2⟩ := hh; cases h1; omega
  ·rcases hn x hx with hh | hh
   ·obtain ⟨a', h1, h2⟩ := hh; cases h1; omega
   ·omega
theorem J5 : gU Tryz.prog nQ lM Tryz.t152 (.agg #[.bool false, .int .u64 0, .int .u64 0, .bool false, .int .u64 0, .int .u64 0]) := ⟨Tryz.underlying62, by kernel_rfl, by kernel_rfl, by kernel_rfl, by decide +kernel⟩
theorem tE (x : aJ) : (aJ.vals x).length = 6 := rfl
theorem Fv (x : aJ) : (aJ.vals x).all eH = true := rfl
theorem yc [Gh] (s : Sl aJ) {h : aB} (os : bH 6 aJ.vals aJ.ok h s) (hl : s.xs.length ≤ 2 ^ 20) {Q : Value → aB → Prop}
  (hk : ∀ p' c' h', Fr (fun _ => False) h h' → Row 6 aJ.vals h' p' c' s.xs → (∀ x, InA p' x → h.size ≤ x) → Q (.slice p' s.xs.length c') h') :
  aD Tryz.prog cP #[.slice s.p s.xs.length s.cap] h Q := by
 apply mT
 unfold iK
 cases hp : s.p with
 | none =>
  rw [if_pos (by rfl)]
  have he : s.xs = [] := by
   cases hx : s.xs with
   | nil => rfl
   | cons a l =>
    obtain ⟨ad, h1, _⟩ := os.at_ 0 (by rw [hx]; simp)
    rw [hp] at h1; cases h1
  have := hk none 0 h (Fr.refl _ _) (by rw [he]; exact Row.nil) fun x hx => (cU hx).elim
  rw [he] at this; exact this
 | some ad =>
  rw [if_neg (by simp)]
  refine aU (vs := []) fun t5 h1 f1 e1 o1 => ?_
  have z1 := f1.size
  have R0 : Row 6 aJ.vals h1 (some t5) 0 [] := Row.of_own (L := []) tE o1
  have src := (bH.fr0 aJ.ok_fr f1 os).src tE
  rw [hp] at src
  refine R0.appL J5 Tryz.underlying62 (by intro k e; cases e) (by kernel_rfl) (by decide +kernel) tE Fv src (by simp; omega) fun p' cap' h' R' f hn => ⟨_, _, _, rfl, ?_⟩
  refine hk p' cap' h' (f1.tr f fun x hx hh => ?_) R' fun x hx => ?_
  ·obtain ⟨a', h1, h2⟩ := hh; cases h1; omega
  ·rcases hn x hx with hh | hh
   ·obtain ⟨a', h1, h2⟩ := hh; cases h1; omega
   ·omega
theorem Kt : gU Tryz.prog pF rH Tryz.t155 (.agg #[.int .i64 0, .int .i64 0]) := ⟨Tryz.underlying63, by kernel_rfl, by kernel_rfl, by kernel_rfl, by decide +kernel⟩
theorem vx (x : aP) : (aP.vals x).length = 2 := rfl
theorem HX (x : aP) : (aP.vals x).all eH = true := rfl
theorem Ad [Gh] (s : Sl aP) {h : aB} (os : bH 2 aP.vals aP.ok h s) (hl : s.xs.length ≤ 2 ^ 20) {Q : Value → aB → Prop}
  (hk : ∀ p' c' h', Fr (fun _ => False) h h' → Row 2 aP.vals h' p' c' s.xs → (∀ x, InA p' x → h.size ≤ x) → Q (.slice p' s.xs.length c') h') :
  aD Tryz.prog cS #[.slice s.p s.xs.length s.cap] h Q := by
 apply nr
 unfold ja
 cases hp : s.p with
 | none =>
  rw [if_pos (by rfl)]
  have he : s.xs = [] := by
   cases hx : s.xs with
   | nil => rfl
   | cons a l =>
    obtain ⟨ad, h1, _⟩ := os.at_ 0 (by rw [hx]; simp)
    rw [hp] at h1; cases h1
  have := hk none 0 h (Fr.refl _ _) (by rw [he]; exact Row.nil) fun x hx => (cU hx).elim
  rw [he] at this; exact this
 | some ad =>
  rw [if_neg (by simp)]
  refine aU (vs := []) fun t5 h1 f1 e1 o1 => ?_
  have z1 := f1.size
  have R0 : Row 2 aP.vals h1 (some t5) 0 [] := Row.of_own (L := []) vx o1
  have src := (bH.fr0 aP.ok_fr f1 os).src vx
  rw [hp] at src
  refine R0.appL Kt Tryz.underlying63 (by intro k e; cases e) (by kernel_rfl) (by decide +kernel) vx HX src (by simp; omega) fun p' cap' h' R' f hn => ⟨_, _, _, rfl, ?_⟩
  refine hk p' cap' h' (f1.tr f fun x hx hh => ?_) R' fun x hx => ?_
  ·obtain ⟨a', h1, h2⟩ := hh; cases h1; omega
  ·rcases hn x hx with hh | hh
   ·obtain ⟨a', h1, h2⟩ := hh; cases h1; omega
   ·omega
theorem Mx : gU Tryz.prog bG oF Tryz.t3 (.int .i64 0) := ⟨Tryz.underlying46, by kernel_rfl, by kernel_rfl, by kernel_rfl, by decide +kernel⟩
theorem AF (x : Int) : ((fun n : Int => [Value.int .i64 n]) x).length = 1 := rfl
theorem Jh (x : Int) : ((fun n : Int => [Value.int .i64 n]) x).all eH = true := rfl
theorem BM [Gh] (s : Sl Int) {h : aB} (os : bH 1 (fun n : Int => [Value.int .i64 n]) (kOk .i64) h s) (hl : s.xs.length ≤ 2 ^ 20) {Q : Value → aB → Prop}
  (hk : ∀ p' c' h', Fr (fun _ => False) h h' → Row 1 (fun n : Int => [Value.int .i64 n]) h' p' c' s.xs → (∀ x, InA p' x → h.size ≤ x) → Q (.slice p' s.xs.length c') h') :
  aD Tryz.prog cX #[.slice s.p s.xs.length s.cap] h Q := by
 apply ny
 unfold kh
 cases hp : s.p with
 | none =>
  rw [if_pos (by rfl)]
  have he : s.xs = [] := by
   cases hx : s.xs with
   | nil => rfl
   | cons a l =>
    obtain ⟨ad, h1, _⟩ := os.at_ 0 (by rw [hx]; simp)
    rw [hp] at h1; cases h1
  have := hk none 0 h (Fr.refl _ _) (by rw [he]; exact Row.nil) fun x hx => (cU hx).elim
  rw [he] at this; exact this
 | some ad =>
  rw [if_neg (by simp)]
  refine aU (vs := []) fun t5 h1 f1 e1 o1 => ?_
  have z1 := f1.size
  have R0 : Row 1 (fun n : Int => [Value.int .i64 n]) h1 (some t5) 0 [] := Row.of_own (L := []) AF o1
  have src := (bH.fr0 zi f1 os).src AF
  rw [hp] at src
  refine R0.appL Mx Tryz.underlying46 (by intro k e; cases e) (by kernel_rfl) (by decide +kernel) AF Jh src (by simp; omega) fun p' cap' h' R' f hn => ⟨_, _, _, rfl, ?_⟩
  refine hk p' cap' h' (f1.tr f fun x hx hh => ?_) R' fun x hx => ?_
  ·obtain ⟨a', h1, h2⟩ := hh; cases h1; omega
  ·rcases hn x hx with hh | hh
   ·obtain ⟨a', h1, h2⟩ := hh; cases h1; omega
   ·omega
theorem BX {h h' : aB} {r : aK} (o : aK.ok h r) : aK.ok h' r :=
 ⟨o.k0, o.k1, o.k2⟩
theorem Gc {h h' : aB} {r : bS} (o : bS.ok h r) : bS.ok h' r :=
 ⟨BX o.k0, o.k1⟩
theorem yJ {h h' : aB} {r : aN} (o : aN.ok h r) : aN.ok h' r :=
 ⟨o.k0, o.k1, Gc o.k2⟩
theorem yx {h h' : aB} {r : aM} (o : aM.ok h r) : aM.ok h' r :=
 ⟨o.k0, o.k1, o.k2, o.k3⟩
theorem Eb {h h' : aB} {r : aI} (o : aI.ok h r) : aI.ok h' r :=
 ⟨o.k0, o.k1, o.k2, o.k3, o.k4, o.k5, o.k6⟩
theorem Jt {h h' : aB} {r : bL} (o : bL.ok h r) : bL.ok h' r :=
 ⟨o.k0, o.k1, o.k2, o.k3, o.k4, o.k5, o.k6⟩
theorem FD {h h' : aB} {r : aZ} (o : aZ.ok h r) : aZ.ok h' r :=
 ⟨o.k0, o.k1⟩
theorem CS {h h' : aB} {r : aJ} (o : aJ.ok h r) : aJ.ok h' r :=
 ⟨BX o.k0, BX o.k1⟩
theorem Eh {h h' : aB} {r : aP} (o : aP.ok h r) : aP.ok h' r :=
 ⟨o.k0, o.k1⟩
theorem B6 {h h' : aB} {r : bF} (o : bF.ok h r) : bF.ok h' r :=
 ⟨o.k0, o.k1, o.k2, o.k3⟩
theorem Lh {h h' : aB} {n : Int} (o : kOk .i64 h n) : kOk .i64 h' n := o
def St (B : Nat → Prop) (h : aB) (b : aE) : Prop := ∀ h', Fr (fun x => ¬ B x) h h' → aE.ok h' b
theorem St.now {B : Nat → Prop} {h : aB} {b : aE} (s : St B h b) : aE.ok h b := s h (Fr.refl _ _)
theorem St.fr {B B' S : Nat → Prop} {h h' : aB} {b : aE} (s : St B h b) (f : Fr S h h') (h1 : ∀ x, x < h.size → B x → ¬ S x) (h2 : ∀ x, x < h.size → B x → B' x) : St B' h' b := fun h'' f2 =>
 s h'' ⟨Nat.le_trans f.size f2.size, fun x hx hn => by
  have hB : B x := Classical.byContradiction hn
  rw [f2.same x (Nat.lt_of_lt_of_le hx f.size) (fun hh => hh (h2 x hx hB)), f.same x hx (h1 x hx hB)]⟩
def tD {α : Type} (s : Sl α) : Sl α := ⟨none, 0, s.xs⟩
def LA (r : aO) : aO := { r with Src := tD r.Src, Dst := tD r.Dst, SrcPorts := tD r.SrcPorts, DstPorts := tD r.DstPorts, Transforms := tD r.Transforms, Contents := tD r.Contents, Tests := tD r.Tests, Flow := tD r.Flow }
def wipe (b : aE) : aE := { Rule := LA b.Rule, Src := tD b.Src, Dst := tD b.Dst, SrcPorts := tD b.SrcPorts, DstPorts := tD b.DstPorts }
structure L0 (b : aE) : Prop where
 l2 : b.Rule.Src.xs.length ≤ 2 ^ 20
 l3 : b.Rule.Dst.xs.length ≤ 2 ^ 20
 l4 : b.Rule.SrcPorts.xs.length ≤ 2 ^ 20
 l5 : b.Rule.DstPorts.xs.length ≤ 2 ^ 20
 l13 : b.Rule.Transforms.xs.length ≤ 2 ^ 20
 l14 : b.Rule.Contents.xs.length ≤ 2 ^ 20
 l15 : b.Rule.Tests.xs.length ≤ 2 ^ 20
 l16 : b.Rule.Flow.xs.length ≤ 2 ^ 20
 l21 : b.Src.xs.length ≤ 2 ^ 20
 l22 : b.Dst.xs.length ≤ 2 ^ 20
 l23 : b.SrcPorts.xs.length ≤ 2 ^ 20
 l24 : b.DstPorts.xs.length ≤ 2 ^ 20
set_option maxHeartbeats 2000000 in
theorem J3 [Gh] (b : aE) {h : aB} (ok : aE.ok h b) (L : L0 b) {Q : Value → aB → Prop} (hk : ∀ (b' : aE) h', Fr (fun _ => False) h h' → St (fun x => h.size ≤ x) h' b' → wipe b' = wipe b → Q (.agg b'.vals.toArray) h') :
  aD Tryz.prog nh #[.agg b.vals.toArray] h Q := by
 apply zz
 unfold ti
 refine aU (vs := b.vals) fun t1 h1 f1 e1 o1 => ?_
 have z1 := f1.size
 have lt1 := o1.lt
 refine aU (vs := [.int .i64 0, .int .i64 0, .slice none 0 0, .slice none 0 0, .slice none 0 0, .slice none 0 0, .bool false, .int .i64 0, .int .i64 0, .int .i64 0, .string (bs []), .int .i64 0, .int .i64 0, .slice none 0 0, .slice none 0 0, .slice none 0 0, .slice none 0 0, .int .i64 0, .int .i64 0, .int .i64 0, .int .i64 0, .slice none 0 0, .slice none 0 0, .slice none 0 0, .slice none 0 0]) fun t2 h2 f2 e2 o2 => ?_
 have z2 := f2.size
 have lt2 := o2.lt
 have F0 : Fr (fun _ => False) h h2 := f1.trans f2
 have c0 : Own h2 t1 b.vals cA := o1.fr0 f2
 have d0 := o2
 have k0 := aE.ok_fr _ _ _ F0 ok
 refine aC (c0.cells.at (j := 2) rfl) (aC (c0.cells.at (j := 3) rfl) ?_)
 refine uQ b.Rule.Src k0.k0.k2 L.l2 fun p2 q2 ha0 fa0 R2 n2 => ⟨_, _, _, rfl, aC ((c0.fr0 fa0).cells.at (j := 3) rfl) rfl, ?_⟩
 have za0 := fa0.size
 refine uQ b.Rule.Dst (aE.ok_fr _ _ _ fa0 k0).k0.k3 L.l3 fun p3 q3 hb0 fb0 R3 n3 => ⟨_, _, _, rfl, ?_⟩
 have zb0 := fb0.size
 refine cO ((c0.fr0 fa0).fr0 fb0) 2 (by show 2 < 25; omega) rfl fun hc0 fc0 zc0 oc0 => ?_
 refine cO oc0 3 (by show 3 < 25; omega) rfl fun hd0 fd0 zd0 od0 => ?_
 have zz0 := fc0.size
 have zy0 := fd0.size
 have g0 : Fr (fun x => x = t1.block) hb0 hd0 := fc0.trans fd0
 have F1 : Fr (fun _ => False) h hd0 := ((F0.trans fa0).trans fb0).tr g0 fun x hx hh => by omega
 have R2 := (R2.fr0 fb0).fr g0 fun x hx hh => by have := n2 x hx; omega
 have R3 := R3.fr g0 fun x hx hh => by have := n3 x hx; omega
 have c1 : Own hd0 t1 (aE.vals (⟨⟨b.Rule.Action, b.Rule.Proto, ⟨p2, q2, b.Rule.Src.xs⟩, ⟨p3, q3, b.Rule.Dst.xs⟩, b.Rule.SrcPorts, b.Rule.DstPorts, b.Rule.Both, b.Rule.Sid, b.Rule.Rev, b.Rule.Priority, b.Rule.Msg, b.Rule.Dir, b.Rule.Kind, b.Rule.Transforms, b.Rule.Contents, b.Rule.Tests, b.Rule.Flow, b.Rule.Threshold⟩, b.Src, b.Dst, b.SrcPorts, b.DstPorts⟩ : aE)) cA := od0
 have d1 := ((d0.fr0 fa0).fr0 fb0).fr g0 fun hh => by omega
 have k1 := aE.ok_fr _ _ _ F1 ok
 refine aC (c1.cells.at (j := 4) rfl) (aC (c1.cells.at (j := 5) rfl) ?_)
 refine uF b.Rule.SrcPorts k1.k0.k4 L.l4 fun p4 q4 ha1 fa1 R4 n4 => ⟨_, _, _, rfl, aC ((c1.fr0 fa1).cells.at (j := 5) rfl) rfl, ?_⟩
 have za1 := fa1.size
 refine uF b.Rule.DstPorts (aE.ok_fr _ _ _ fa1 k1).k0.k5 L.l5 fun p5 q5 hb1 fb1 R5 n5 => ⟨_, _, _, rfl, ?_⟩
 have zb1 := fb1.size
 refine cO ((c1.fr0 fa1).fr0 fb1) 4 (by show 4 < 25; omega) rfl fun hc1 fc1 zc1 oc1 => ?_
 refine cO oc1 5 (by show 5 < 25; omega) rfl fun hd1 fd1 zd1 od1 => ?_
 have zz1 := fc1.size
 have zy1 := fd1.size
 have g1 : Fr (fun x => x = t1.block) hb1 hd1 := fc1.trans fd1
 have F2 : Fr (fun _ => False) h hd1 := ((F1.trans fa1).trans fb1).tr g1 fun x hx hh => by omega
 have R4 := (R4.fr0 fb1).fr g1 fun x hx hh => by have := n4 x hx; omega
 have R5 := R5.fr g1 fun x hx hh => by have := n5 x hx; omega
 have R2 := ((R2.fr0 fa1).fr0 fb1).fr g1 fun x hx hh => by have := n2 x hx; omega
 have R3 := ((R3.fr0 fa1).fr0 fb1).fr g1 fun x hx hh => by have := n3 x hx; omega
 have c2 : Own hd1 t1 (aE.vals (⟨⟨b.Rule.Action, b.Rule.Proto, ⟨p2, q2, b.Rule.Src.xs⟩, ⟨p3, q3, b.Rule.Dst.xs⟩, ⟨p4, q4, b.Rule.SrcPorts.xs⟩, ⟨p5, q5, b.Rule.DstPorts.xs⟩, b.Rule.Both, b.Rule.Sid, b.Rule.Rev, b.Rule.Priority, b.Rule.Msg, b.Rule.Dir, b.Rule.Kind, b.Rule.Transforms, b.Rule.Contents, b.Rule.Tests, b.Rule.Flow, b.Rule.Threshold⟩, b.Src, b.Dst, b.SrcPorts, b.DstPorts⟩ : aE)) cA := od1
 have d2 := ((d1.fr0 fa1).fr0 fb1).fr g1 fun hh => by omega
 have k2 := aE.ok_fr _ _ _ F2 ok
 refine aC (c2.cells.at (j := 13) rfl) (aC (c2.cells.at (j := 14) rfl) ?_)
 refine BM b.Rule.Transforms k2.k0.k13 L.l13 fun p13 q13 ha2 fa2 R13 n13 => ⟨_, _, _, rfl, aC ((c2.fr0 fa2).cells.at (j := 14) rfl) rfl, ?_⟩
 have za2 := fa2.size
 refine AZ b.Rule.Contents (aE.ok_fr _ _ _ fa2 k2).k0.k14 L.l14 fun p14 q14 hb2 fb2 R14 n14 => ⟨_, _, _, rfl, ?_⟩
 have zb2 := fb2.size
 refine cO ((c2.fr0 fa2).fr0 fb2) 13 (by show 13 < 25; omega) rfl fun hc2 fc2 zc2 oc2 => ?_
 refine cO oc2 14 (by show 14 < 25; omega) rfl fun hd2 fd2 zd2 od2 => ?_
 have zz2 := fc2.size
 have zy2 := fd2.size
 have g2 : Fr (fun x => x = t1.block) hb2 hd2 := fc2.trans fd2
 have F3 : Fr (fun _ => False) h hd2 := ((F2.trans fa2).trans fb2).tr g2 fun x hx hh => by omega
 have R13 := (R13.fr0 fb2).fr g2 fun x hx hh => by have := n13 x hx; omega
 have R14 := R14.fr g2 fun x hx hh => by have := n14 x hx; omega
 have R2 := ((R2.fr0 fa2).fr0 fb2).fr g2 fun x hx hh => by have := n2 x hx; omega
 have R3 := ((R3.fr0 fa2).fr0 fb2).fr g2 fun x hx hh => by have := n3 x hx; omega
 have R4 := ((R4.fr0 fa2).fr0 fb2).fr g2 fun x hx hh => by have := n4 x hx; omega
 have R5 := ((R5.fr0 fa2).fr0 fb2).fr g2 fun x hx hh => by have := n5 x hx; omega
 have c3 : Own hd2 t1 (aE.vals (⟨⟨b.Rule.Action, b.Rule.Proto, ⟨p2, q2, b.Rule.Src.xs⟩, ⟨p3, q3, b.Rule.Dst.xs⟩, ⟨p4, q4, b.Rule.SrcPorts.xs⟩, ⟨p5, q5, b.Rule.DstPorts.xs⟩, b.Rule.Both, b.Rule.Sid, b.Rule.Rev, b.Rule.Priority, b.Rule.Msg, b.Rule.Dir, b.Rule.Kind, ⟨p13, q13, b.Rule.Transforms.xs⟩, ⟨p14, q14, b.Rule.Contents.xs⟩, b.Rule.Tests, b.Rule.Flow, b.Rule.Threshold⟩, b.Src, b.Dst, b.SrcPorts, b.DstPorts⟩ : aE)) cA := od2
 have d3 := ((d2.fr0 fa2).fr0 fb2).fr g2 fun hh => by omega
 have k3 := aE.ok_fr _ _ _ F3 ok
 refine aC (c3.cells.at (j := 15) rfl) (aC (c3.cells.at (j := 16) rfl) ?_)
 refine Ex b.Rule.Tests k3.k0.k15 L.l15 fun p15 q15 ha3 fa3 R15 n15 => ⟨_, _, _, rfl, aC ((c3.fr0 fa3).cells.at (j := 16) rfl) rfl, ?_⟩
 have za3 := fa3.size
 refine Ca b.Rule.Flow (aE.ok_fr _ _ _ fa3 k3).k0.k16 L.l16 fun p16 q16 hb3 fb3 R16 n16 => ⟨_, _, _, rfl, ?_⟩
 have zb3 := fb3.size
 refine cO ((c3.fr0 fa3).fr0 fb3) 15 (by show 15 < 25; omega) rfl fun hc3 fc3 zc3 oc3 => ?_
 refine cO oc3 16 (by show 16 < 25; omega) rfl fun hd3 fd3 zd3 od3 => ?_
 have zz3 := fc3.size
 have zy3 := fd3.size
 have g3 : Fr (fun x => x = t1.block) hb3 hd3 := fc3.trans fd3
 have F4 : Fr (fun _ => False) h hd3 := ((F3.trans fa3).trans fb3).tr g3 fun x hx hh => by omega
 have R15 := (R15.fr0 fb3).fr g3 fun x hx hh => by have := n15 x hx; omega
 have R16 := R16.fr g3 fun x hx hh => by have := n16 x hx; omega
 have R2 := ((R2.fr0 fa3).fr0 fb3).fr g3 fun x hx hh => by have := n2 x hx; omega
 have R3 := ((R3.fr0 fa3).fr0 fb3).fr g3 fun x hx hh => by have := n3 x hx; omega
 have R4 := ((R4.fr0 fa3).fr0 fb3).fr g3 fun x hx hh => by have := n4 x hx; omega
 have R5 := ((R5.fr0 fa3).fr0 fb3).fr g3 fun x hx hh => by have := n5 x hx; omega
 have R13 := ((R13.fr0 fa3).fr0 fb3).fr g3 fun x hx hh => by have := n13 x hx; omega
 have R14 := ((R14.fr0 fa3).fr0 fb3).fr g3 fun x hx hh => by have := n14 x hx; omega
 have c4 : Own hd3 t1 (aE.vals (⟨⟨b.Rule.Action, b.Rule.Proto, ⟨p2, q2, b.Rule.Src.xs⟩, ⟨p3, q3, b.Rule.Dst.xs⟩, ⟨p4, q4, b.Rule.SrcPorts.xs⟩, ⟨p5, q5, b.Rule.DstPorts.xs⟩, b.Rule.Both, b.Rule.Sid, b.Rule.Rev, b.Rule.Priority, b.Rule.Msg, b.Rule.Dir, b.Rule.Kind, ⟨p13, q13, b.Rule.Transforms.xs⟩, ⟨p14, q14, b.Rule.Contents.xs⟩, ⟨p15, q15, b.Rule.Tests.xs⟩, ⟨p16, q16, b.Rule.Flow.xs⟩, b.Rule.Threshold⟩, b.Src, b.Dst, b.SrcPorts, b.DstPorts⟩ : aE)) cA := od3
 have d4 := ((d3.fr0 fa3).fr0 fb3).fr g3 fun hh => by omega
 have k4 := aE.ok_fr _ _ _ F4 ok
 refine aC (c4.cells.at (j := 21) rfl) (aC (c4.cells.at (j := 22) rfl) ?_)
 refine yc b.Src k4.k1 L.l21 fun p21 q21 ha4 fa4 R21 n21 => ⟨_, _, _, rfl, aC ((c4.fr0 fa4).cells.at (j := 22) rfl) rfl, ?_⟩
 have za4 := fa4.size
 refine yc b.Dst (aE.ok_fr _ _ _ fa4 k4).k2 L.l22 fun p22 q22 hb4 fb4 R22 n22 => ⟨_, _, _, rfl, ?_⟩
 have zb4 := fb4.size
 refine cO ((c4.fr0 fa4).fr0 fb4) 21 (by show 21 < 25; omega) rfl fun hc4 fc4 zc4 oc4 => ?_
 refine cO oc4 22 (by show 22 < 25; omega) rfl fun hd4 fd4 zd4 od4 => ?_
 have zz4 := fc4.size
 have zy4 := fd4.size
 have g4 : Fr (fun x => x = t1.block) hb4 hd4 := fc4.trans fd4
 have F5 : Fr (fun _ => False) h hd4 := ((F4.trans fa4).trans fb4).tr g4 fun x hx hh => by omega
 have R21 := (R21.fr0 fb4).fr g4 fun x hx hh => by have := n21 x hx; omega
 have R22 := R22.fr g4 fun x hx hh => by have := n22 x hx; omega
 have R2 := ((R2.fr0 fa4).fr0 fb4).fr g4 fun x hx hh => by have := n2 x hx; omega
 have R3 := ((R3.fr0 fa4).fr0 fb4).fr g4 fun x hx hh => by have := n3 x hx; omega
 have R4 := ((R4.fr0 fa4).fr0 fb4).fr g4 fun x hx hh => by have := n4 x hx; omega
 have R5 := ((R5.fr0 fa4).fr0 fb4).fr g4 fun x hx hh => by have := n5 x hx; omega
 have R13 := ((R13.fr0 fa4).fr0 fb4).fr g4 fun x hx hh => by have := n13 x hx; omega
 have R14 := ((R14.fr0 fa4).fr0 fb4).fr g4 fun x hx hh => by have := n14 x hx; omega
 have R15 := ((R15.fr0 fa4).fr0 fb4).fr g4 fun x hx hh => by have := n15 x hx; omega
 have R16 := ((R16.fr0 fa4).fr0 fb4).fr g4 fun x hx hh => by have := n16 x hx; omega
 have c5 : Own hd4 t1 (aE.vals (⟨⟨b.Rule.Action, b.Rule.Proto, ⟨p2, q2, b.Rule.Src.xs⟩, ⟨p3, q3, b.Rule.Dst.xs⟩, ⟨p4, q4, b.Rule.SrcPorts.xs⟩, ⟨p5, q5, b.Rule.DstPorts.xs⟩, b.Rule.Both, b.Rule.Sid, b.Rule.Rev, b.Rule.Priority, b.Rule.Msg, b.Rule.Dir, b.Rule.Kind, ⟨p13, q13, b.Rule.Transforms.xs⟩, ⟨p14, q14, b.Rule.Contents.xs⟩, ⟨p15, q15, b.Rule.Tests.xs⟩, ⟨p16, q16, b.Rule.Flow.xs⟩, b.Rule.Threshold⟩, ⟨p21, q21, b.Src.xs⟩, ⟨p22, q22, b.Dst.xs⟩, b.SrcPorts, b.DstPorts⟩ : aE)) cA := od4
 have d5 := ((d4.fr0 fa4).fr0 fb4).fr g4 fun hh => by omega
 have k5 := aE.ok_fr _ _ _ F5 ok
 refine aC (c5.cells.at (j := 23) rfl) (aC (c5.cells.at (j := 24) rfl) ?_)
 refine Ad b.SrcPorts k5.k3 L.l23 fun p23 q23 ha5 fa5 R23 n23 => ⟨_, _, _, rfl, aC ((c5.fr0 fa5).cells.at (j := 24) rfl) rfl, ?_⟩
 have za5 := fa5.size
 refine Ad b.DstPorts (aE.ok_fr _ _ _ fa5 k5).k4 L.l24 fun p24 q24 hb5 fb5 R24 n24 => ⟨_, _, _, rfl, ?_⟩
 have zb5 := fb5.size
 refine cO ((c5.fr0 fa5).fr0 fb5) 23 (by show 23 < 25; omega) rfl fun hc5 fc5 zc5 oc5 => ?_
 refine cO oc5 24 (by show 24 < 25; omega) rfl fun hd5 fd5 zd5 od5 => ?_
 have zz5 := fc5.size
 have zy5 := fd5.size
 have g5 : Fr (fun x => x = t1.block) hb5 hd5 := fc5.trans fd5
 have F6 : Fr (fun _ => False) h hd5 := ((F5.trans fa5).trans fb5).tr g5 fun x hx hh => by omega
 have R23 := (R23.fr0 fb5).fr g5 fun x hx hh => by have := n23 x hx; omega
 have R24 := R24.fr g5 fun x hx hh => by have := n24 x hx; omega
 have R2 := ((R2.fr0 fa5).fr0 fb5).fr g5 fun x hx hh => by have := n2 x hx; omega
 have R3 := ((R3.fr0 fa5).fr0 fb5).fr g5 fun x hx hh => by have := n3 x hx; omega
 have R4 := ((R4.fr0 fa5).fr0 fb5).fr g5 fun x hx hh => by have := n4 x hx; omega
 have R5 := ((R5.fr0 fa5).fr0 fb5).fr g5 fun x hx hh => by have := n5 x hx; omega
 have R13 := ((R13.fr0 fa5).fr0 fb5).fr g5 fun x hx hh => by have := n13 x hx; omega
 have R14 := ((R14.fr0 fa5).fr0 fb5).fr g5 fun x hx hh => by have := n14 x hx; omega
 have R15 := ((R15.fr0 fa5).fr0 fb5).fr g5 fun x hx hh => by have := n15 x hx; omega
 have R16 := ((R16.fr0 fa5).fr0 fb5).fr g5 fun x hx hh => by have := n16 x hx; omega
 have R21 := ((R21.fr0 fa5).fr0 fb5).fr g5 fun x hx hh => by have := n21 x hx; omega
 have R22 := ((R22.fr0 fa5).fr0 fb5).fr g5 fun x hx hh => by have := n22 x hx; omega
 have c6 : Own hd5 t1 (aE.vals (⟨⟨b.Rule.Action, b.Rule.Proto, ⟨p2, q2, b.Rule.Src.xs⟩, ⟨p3, q3, b.Rule.Dst.xs⟩, ⟨p4, q4, b.Rule.SrcPorts.xs⟩, ⟨p5, q5, b.Rule.DstPorts.xs⟩, b.Rule.Both, b.Rule.Sid, b.Rule.Rev, b.Rule.Priority, b.Rule.Msg, b.Rule.Dir, b.Rule.Kind, ⟨p13, q13, b.Rule.Transforms.xs⟩, ⟨p14, q14, b.Rule.Contents.xs⟩, ⟨p15, q15, b.Rule.Tests.xs⟩, ⟨p16, q16, b.Rule.Flow.xs⟩, b.Rule.Threshold⟩, ⟨p21, q21, b.Src.xs⟩, ⟨p22, q22, b.Dst.xs⟩, ⟨p23, q23, b.SrcPorts.xs⟩, ⟨p24, q24, b.DstPorts.xs⟩⟩ : aE)) cA := od5
 have d6 := ((d5.fr0 fa5).fr0 fb5).fr g5 fun hh => by omega
 clear k0 k1 k2 k3 k4 k5
 refine (aA (c6.cells.at0 rfl) (aA (c6.cells.at rfl) (aC (c6.cells.at rfl) (aC (c6.cells.at rfl) (aC (c6.cells.at rfl) (aC (c6.cells.at rfl) (aG (c6.cells.at rfl) (aA (c6.cells.at rfl) (aA (c6.cells.at rfl) (aA (c6.cells.at rfl) (aT (c6.cells.at rfl) (aA (c6.cells.at rfl) (aA (c6.cells.at rfl) (aC (c6.cells.at rfl) (aC (c6.cells.at rfl) (aC (c6.cells.at rfl) (aC (c6.cells.at rfl) (aA (c6.cells.at rfl) (aA (c6.cells.at rfl) (aA (c6.cells.at rfl) (aA (c6.cells.at rfl) (aC (c6.cells.at rfl) (aC (c6.cells.at rfl) (aC (c6.cells.at rfl) (aC (c6.cells.at rfl) ?_)))))))))))))))))))))))))
 refine jt d6 (ws := aE.vals (⟨⟨b.Rule.Action, b.Rule.Proto, ⟨p2, q2, b.Rule.Src.xs⟩, ⟨p3, q3, b.Rule.Dst.xs⟩, ⟨p4, q4, b.Rule.SrcPorts.xs⟩, ⟨p5, q5, b.Rule.DstPorts.xs⟩, b.Rule.Both, b.Rule.Sid, b.Rule.Rev, b.Rule.Priority, b.Rule.Msg, b.Rule.Dir, b.Rule.Kind, ⟨p13, q13, b.Rule.Transforms.xs⟩, ⟨p14, q14, b.Rule.Contents.xs⟩, ⟨p15, q15, b.Rule.Tests.xs⟩, ⟨p16, q16, b.Rule.Flow.xs⟩, b.Rule.Threshold⟩, ⟨p21, q21, b.Src.xs⟩, ⟨p22, q22, b.Dst.xs⟩, ⟨p23, q23, b.SrcPorts.xs⟩, ⟨p24, q24, b.DstPorts.xs⟩⟩ : aE)) (by rfl) (by rfl) fun h9 f9 z9 o9 => ?_
 have zz9 := f9.size
 have F9 : Fr (fun _ => False) h h9 := F6.tr f9 fun x hx hh => by omega
 have k9 := aE.ok_fr _ _ _ F9 ok
 refine (aA (o9.cells.at0 rfl) (aA (o9.cells.at rfl) (aC (o9.cells.at rfl) (aC (o9.cells.at rfl) (aC (o9.cells.at rfl) (aC (o9.cells.at rfl) (aG (o9.cells.at rfl) (aA (o9.cells.at rfl) (aA (o9.cells.at rfl) (aA (o9.cells.at rfl) (aT (o9.cells.at rfl) (aA (o9.cells.at rfl) (aA (o9.cells.at rfl) (aC (o9.cells.at rfl) (aC (o9.cells.at rfl) (aC (o9.cells.at rfl) (aC (o9.cells.at rfl) (aA (o9.cells.at rfl) (aA (o9.cells.at rfl) (aA (o9.cells.at rfl) (aA (o9.cells.at rfl) (aC (o9.cells.at rfl) (aC (o9.cells.at rfl) (aC (o9.cells.at rfl) (aC (o9.cells.at rfl) ?_)))))))))))))))))))))))))
 refine hk (⟨⟨b.Rule.Action, b.Rule.Proto, ⟨p2, q2, b.Rule.Src.xs⟩, ⟨p3, q3, b.Rule.Dst.xs⟩, ⟨p4, q4, b.Rule.SrcPorts.xs⟩, ⟨p5, q5, b.Rule.DstPorts.xs⟩, b.Rule.Both, b.Rule.Sid, b.Rule.Rev, b.Rule.Priority, b.Rule.Msg, b.Rule.Dir, b.Rule.Kind, ⟨p13, q13, b.Rule.Transforms.xs⟩, ⟨p14, q14, b.Rule.Contents.xs⟩, ⟨p15, q15, b.Rule.Tests.xs⟩, ⟨p16, q16, b.Rule.Flow.xs⟩, b.Rule.Threshold⟩, ⟨p21, q21, b.Src.xs⟩, ⟨p22, q22, b.Dst.xs⟩, ⟨p23, q23, b.SrcPorts.xs⟩, ⟨p24, q24, b.DstPorts.xs⟩⟩ : aE) h9 F9 (fun h10 f10 => ?_) rfl
 exact ⟨⟨k9.k0.k0, k9.k0.k1, ((R2.fr f9 fun x hx hh => by have := n2 x hx; omega).fr f10 fun x hx hh => hh (by have := n2 x hx; omega)).sl nT (by decide) k9.k0.k2.cap (fun x hx => by obtain ⟨m, hm, rfl⟩ := List.mem_iff_getElem.1 hx; obtain ⟨_, _, _, hx⟩ := k9.k0.k2.at_ m hm; exact yJ hx), ((R3.fr f9 fun x hx hh => by have := n3 x hx; omega).fr f10 fun x hx hh => hh (by have := n3 x hx; omega)).sl nT (by decide) k9.k0.k3.cap (fun x hx => by obtain ⟨m, hm, rfl⟩ := List.mem_iff_getElem.1 hx; obtain ⟨_, _, _, hx⟩ := k9.k0.k3.at_ m hm; exact yJ hx), ((R4.fr f9 fun x hx hh => by have := n4 x hx; omega).fr f10 fun x hx hh => hh (by have := n4 x hx; omega)).sl nK (by decide) k9.k0.k4.cap (fun x hx => by obtain ⟨m, hm, rfl⟩ := List.mem_iff_getElem.1 hx; obtain ⟨_, _, _, hx⟩ := k9.k0.k4.at_ m hm; exact yx hx), ((R5.fr f9 fun x hx hh => by have := n5 x hx; omega).fr f10 fun x hx hh => hh (by have := n5 x hx; omega)).sl nK (by decide) k9.k0.k5.cap (fun x hx => by obtain ⟨m, hm, rfl⟩ := List.mem_iff_getElem.1 hx; obtain ⟨_, _, _, hx⟩ := k9.k0.k5.at_ m hm; exact yx hx), k9.k0.k6, k9.k0.k7, k9.k0.k8, k9.k0.k9, k9.k0.k10, k9.k0.k11, k9.k0.k12, ((R13.fr f9 fun x hx hh => by have := n13 x hx; omega).fr f10 fun x hx hh => hh (by have := n13 x hx; omega)).sl AF (by decide) k9.k0.k13.cap (fun x hx => by obtain ⟨m, hm, rfl⟩ := List.mem_iff_getElem.1 hx; obtain ⟨_, _, _, hx⟩ := k9.k0.k13.at_ m hm; exact Lh hx), ((R14.fr f9 fun x hx hh => by have := n14 x hx; omega).fr f10 fun x hx hh => hh (by have := n14 x hx; omega)).sl sb (by decide) k9.k0.k14.cap (fun x hx => by obtain ⟨m, hm, rfl⟩ := List.mem_iff_getElem.1 hx; obtain ⟨_, _, _, hx⟩ := k9.k0.k14.at_ m hm; exact Eb hx), ((R15.fr f9 fun x hx hh => by have := n15 x hx; omega).fr f10 fun x hx hh => hh (by have := n15 x hx; omega)).sl ym (by decide) k9.k0.k15.cap (fun x hx => by obtain ⟨m, hm, rfl⟩ := List.mem_iff_getElem.1 hx; obtain ⟨_, _, _, hx⟩ := k9.k0.k15.at_ m hm; exact Jt hx), ((R16.fr f9 fun x hx hh => by have := n16 x hx; omega).fr f10 fun x hx hh => hh (by have := n16 x hx; omega)).sl tZ (by decide) k9.k0.k16.cap (fun x hx => by obtain ⟨m, hm, rfl⟩ := List.mem_iff_getElem.1 hx; obtain ⟨_, _, _, hx⟩ := k9.k0.k16.at_ m hm; exact FD hx), B6 k9.k0.k17⟩, ((R21.fr f9 fun x hx hh => by have := n21 x hx; omega).fr f10 fun x hx hh => hh (by have := n21 x hx; omega)).sl tE (by decide) k9.k1.cap (fun x hx => by obtain ⟨m, hm, rfl⟩ := List.mem_iff_getElem.1 hx; obtain ⟨_, _, _, hx⟩ := k9.k1.at_ m hm; exact CS hx), ((R22.fr f9 fun x hx hh => by have := n22 x hx; omega).fr f10 fun x hx hh => hh (by have := n22 x hx; omega)).sl tE (by decide) k9.k2.cap (fun x hx => by obtain ⟨m, hm, rfl⟩ := List.mem_iff_getElem.1 hx; obtain ⟨_, _, _, hx⟩ := k9.k2.at_ m hm; exact CS hx), ((R23.fr f9 fun x hx hh => by have := n23 x hx; omega).fr f10 fun x hx hh => hh (by have := n23 x hx; omega)).sl vx (by decide) k9.k3.cap (fun x hx => by obtain ⟨m, hm, rfl⟩ := List.mem_iff_getElem.1 hx; obtain ⟨_, _, _, hx⟩ := k9.k3.at_ m hm; exact Eh hx), ((R24.fr f9 fun x hx hh => by have := n24 x hx; omega).fr f10 fun x hx hh => hh (by have := n24 x hx; omega)).sl vx (by decide) k9.k4.cap (fun x hx => by obtain ⟨m, hm, rfl⟩ := List.mem_iff_getElem.1 hx; obtain ⟨_, _, _, hx⟩ := k9.k4.at_ m hm; exact Eh hx)⟩
end Go.Proofs.YtjmfpeiidlpngaaGreatDoor
namespace Go.Proofs.YtjmfpeiidlpngaaGreatDoor
set_option linter.unusedSimpArgs false
set_option linter.unusedVariables false
set_option maxRecDepth 20000
open Go
abbrev Ent (κ : Type) := κ × Value × Nat
section
variable {P : Program} {κ : Type} {enc : κ → Value}
def mkE (enc : κ → Value) (e : Ent κ) : MapEntry := ⟨enc e.1, e.2.1, e.2.2⟩
def prE (e : Ent κ) : κ × Value := (e.1, e.2.1)
def tL [DecidableEq κ] (a : κ) : List (Ent κ) → Nat → Option (Nat × Value)
 | [], _ => none
 | e :: es, i => if a = e.1 then some (i, e.2.1) else tL a es (i + 1)
structure KJ (P : Program) (kt : TypeId) {κ : Type} [DecidableEq κ] (enc : κ → Value) : Prop where
 same : ∀ a, Instr.sameBits 10000 (enc a) (enc a) = true
 check : ∀ (b : Bool) (a : κ) {h : aB} {K : Unit → aB → Prop}, K () h → wpH P (Instr.checkKey b 10000 kt (enc a)) K h
 find : ∀ (a : κ) (es : List (Ent κ)) {h : aB} {K : Option (Nat × Value) → aB → Prop}, K (tL a es 0) h → wpH P (Instr.findKey kt (enc a) (es.map (mkE enc))) K h
structure MP {κ : Type} (es : List (Ent κ)) (clock : Nat) : Prop where
 keys : (es.map (·.1)).Nodup
 borns : (es.map (·.2.2)).Nodup
 lt : ∀ e ∈ es, e.2.2 < clock
def GD (enc : κ → Value) (h : aB) (r : Nat) (es : List (Ent κ)) (clock : Nat) : Prop := h[r]? = some (.map (es.map (mkE enc)).toArray clock)
def wH (enc : κ → Value) (h : aB) (r : Nat) (m : List (κ × Value)) : Prop := ∃ es clock, GD enc h r es clock ∧ MP es clock ∧ es.map prE = m
def pT {κ : Type} [DecidableEq κ] (m : List (κ × Value)) (a : κ) : Option Value := (m.find? fun e => decide (e.1 = a)).map (·.2)
def E3 {κ : Type} [DecidableEq κ] (m : List (κ × Value)) (a : κ) (v : Value) : List (κ × Value) := if (pT m a).isSome then m.map (fun e => if e.1 = a then (e.1, v) else e) else m ++ [(a, v)]
theorem wH.fr {S : Nat → Prop} {h h' : aB} {r : Nat} {m : List (κ × Value)} (I : wH enc h r m) (f : Fr S h h') (hn : ¬ S r) : wH enc h' r m := by
 obtain ⟨es, c, h1, h2, h3⟩ := I; exact ⟨es, c, f.get h1 hn, h2, h3⟩
theorem wH.lt {h : aB} {r : Nat} {m : List (κ × Value)} (I : wH enc h r m) : r < h.size := by
 obtain ⟨es, c, h1, _⟩ := I; exact qM h1
section
variable [DecidableEq κ]
theorem CJ (a : κ) : ∀ (es : List (Ent κ)) (i : Nat), (tL a es i).map (·.2) = pT (es.map prE) a
 | [], _ => rfl
 | e :: es, i => by
  unfold tL pT
  rw [List.map_cons, List.find?_cons]
  by_cases h : a = e.1
  ·rw [if_pos h]; simp [prE, h]
  ·rw [if_neg h, CJ a es (i + 1)]
   have : decide ((prE e).1 = a) = false := by rw [decide_eq_false_iff_not]; exact fun (h' : e.1 = a) => h h'.symm
   rw [this]; rfl
theorem Dc (a : κ) : ∀ (es : List (Ent κ)) (i j : Nat) (v : Value), tL a es i = some (j, v) → ∃ k, ∃ hk : k < es.length, j = i + k ∧ es[k].1 = a ∧ es[k].2.1 = v
 | [], _, _, _, h => by cases h
 | e :: es, i, j, v, h => by
  unfold tL at h
  by_cases ha : a = e.1
  ·rw [if_pos ha] at h
   simp only [Option.some.injEq, Prod.mk.injEq] at h
   exact ⟨0, by simp, by omega, ha.symm, h.2⟩
  ·rw [if_neg ha] at h
   obtain ⟨k, hk, e1, e2, e3⟩ := Dc a es (i + 1) j v h
   exact ⟨k + 1, by simp; omega, by omega, e2, e3⟩
theorem xy (a : κ) : ∀ (es : List (Ent κ)) (i : Nat), tL a es i = none → ∀ e ∈ es, e.1 ≠ a
 | [], _, _, _, he => by cases he
 | e :: es, i, h, x, hx => by
  unfold tL at h
  by_cases ha : a = e.1
  ·rw [if_pos ha] at h; cases h
  ·rw [if_neg ha] at h
   rcases List.mem_cons.1 hx with rfl | hx
   ·exact fun h => ha h.symm
   ·exact xy a es (i + 1) h x hx
end
theorem Bc {h : aB} {r : Nat} {o : Obj} (ho : h[r]? = some o) (hn : zc o = true) {K : Obj → aB → Prop} (hk : K o h) : wpH P (getObj r) K h := ⟨o, ho, hn, hk⟩
theorem AY {h : aB} {r : Nat} {o o' : Obj} (ho : h[r]? = some o') (hn : zc o' = true) {K : Unit → aB → Prop} (hk : K () (h.setIfInBounds r o)) : wpH P (setObj r o) K h := ⟨⟨o', ho, hn⟩, hk⟩
theorem yC [DecidableEq κ] {mt kt et : TypeId} (T : KJ P kt enc) (hu : P.underlying mt = some (.map kt et)) {z : Value} (hz : ∀ {h : aB} {K : Value → aB → Prop}, K z h → wpH P (zeroValue et) K h)
  {h : aB} {r : Nat} {m : List (κ × Value)} (I : wH enc h r m) (a : κ) (ok : Bool) {K : Value → aB → Prop}
  (hk : K (if ok then .tuple #[(pT m a).getD z, .bool (pT m a).isSome] else (pT m a).getD z) h) : BQ P mt (.map (some r)) (enc a) ok h K := by
 obtain ⟨es, c, h1, h2, rfl⟩ := I
 unfold BQ Instr.lookup
 simp only [bind]
 rw [aQ]; refine bU hu ?_
 simp only
 rw [aQ]; refine Bc h1 rfl ?_
 simp only [pure, Sem.bind]
 rw [aQ]; refine T.check _ a ?_
 rw [aQ]
 refine T.find a es ?_
 rw [← CJ a es 0] at hk
 cases hf : tL a es 0 with
 | none =>
  rw [hf] at hk
  simp only
  rw [aQ]; refine hz ?_
  exact hk
 | some x =>
  rw [hf] at hk
  exact hk
theorem Nc {es : List (Ent κ)} {k : Nat} (hk : k < es.length) (f : MapEntry → MapEntry) (e' : Ent κ) (h : f (mkE enc es[k]) = mkE enc e') : ((es.map (mkE enc)).toArray.modify k f) = ((es.set k e').map (mkE enc)).toArray := by
 apply Array.ext_getElem?
 intro i
 rw [Array.getElem?_modify, List.getElem?_toArray, List.getElem?_toArray, List.getElem?_map, List.getElem?_map, List.getElem?_set]
 by_cases e : k = i
 ·subst e
  rw [if_pos rfl, if_pos rfl, if_pos hk, List.getElem?_eq_getElem hk]
  simp [h]
 ·rw [if_neg e, if_neg e]
theorem Dz {α β : Type} (f : α → β) (l : List α) (k : Nat) (x : α) : (l.set k x).map f = (l.map f).set k (f x) := List.map_set
theorem AM {α : Type} (l : List α) (k : Nat) (hk : k < l.length) : l.set k l[k] = l := by
 apply List.ext_getElem (by simp)
 intro i h1 h2
 rw [List.getElem_set]
 split
 ·rename_i e; subst e; rfl
 ·rfl
theorem KY [DecidableEq κ] {m : List (κ × Value)} (nd : (m.map (·.1)).Nodup) {k : Nat} (hk : k < m.length) {a : κ} (ha : m[k].1 = a) (v : Value) : m.map (fun e => if e.1 = a then (e.1, v) else e) = m.set k (a, v) := by
 apply List.ext_getElem (by simp)
 intro i h1 h2
 have hi : i < m.length := by simpa using h1
 rw [List.getElem_map, List.getElem_set]
 split
 ·rename_i e
  split
  ·rw [e]
  ·rename_i hne
   have : i = k := by
    have := (List.getElem_inj (h₀ := by simpa using hi) (h₁ := by simpa using hk) nd).1 (by simp only [List.getElem_map]; rw [e, ha])
    exact this
   exact absurd this.symm hne
 ·rename_i e
  split
  ·rename_i e2; subst e2; exact absurd ha e
  ·rfl
theorem tR [DecidableEq κ] {m : List (κ × Value)} {a : κ} : (pT m a).isSome = true ↔ ∃ e ∈ m, e.1 = a := by
 unfold pT
 rw [Option.isSome_map, List.find?_isSome]
 simp
theorem Dh [DecidableEq κ] {mt kt et : TypeId} (T : KJ P kt enc) (hu : P.underlying mt = some (.map kt et)) {h : aB} {r : Nat} {m : List (κ × Value)} (I : wH enc h r m) (a : κ) (v : Value) {K : aB → Prop}
  (hk : ∀ h', Fr (fun b => b = r) h h' → h'.size = h.size → wH enc h' r (E3 m a v) → K h') : r8 P mt (.map (some r)) (enc a) v h K := by
 obtain ⟨es, c, h1, h2, rfl⟩ := I
 unfold r8 Instr.mapUpdate
 simp only [bind]
 rw [aQ]; refine bU hu ?_
 simp only
 rw [aQ]; refine Bc h1 rfl ?_
 simp only
 rw [aQ]; refine T.check _ a ?_
 rw [aQ]
 refine T.find a es ?_
 cases hf : tL a es 0 with
 | none =>
  simp only
  refine AY h1 rfl (hk _ (Fr.set _ _ rfl) (by simp) ⟨es ++ [(a, v, c)], c + 1, ?_, ?_, ?_⟩)
  ·unfold GD
   rw [l6 h1]; simp [mkE]
  ·have hn := xy a es 0 hf
   refine ⟨?_, ?_, ?_⟩
   ·rw [List.map_append, List.nodup_append]
    refine ⟨h2.keys, by simp, fun x hx y hy => ?_⟩
    obtain ⟨e, he, rfl⟩ := List.mem_map.1 hx
    simp at hy; subst hy
    exact hn e he
   ·rw [List.map_append, List.nodup_append]
    refine ⟨h2.borns, by simp, fun x hx y hy => ?_⟩
    obtain ⟨e, he, rfl⟩ := List.mem_map.1 hx
    simp at hy; subst hy
    have := h2.lt e he; omega
   ·intro e he
    rcases List.mem_append.1 he with he | he
    ·have := h2.lt e he; omega
    ·simp at he; subst he; simp
  ·have hn := xy a es 0 hf
   have : ¬ (pT (es.map prE) a).isSome = true := fun h => by
    obtain ⟨e, he, ha⟩ := tR.1 h
    obtain ⟨x, hx, rfl⟩ := List.mem_map.1 he
    exact hn x hx ha
   unfold E3
   rw [if_neg this]; simp [prE]
 | some x =>
  obtain ⟨j, y⟩ := x
  obtain ⟨k, hkl, ej, ea, ev⟩ := Dc a es 0 j y hf
  have ej : j = k := by omega
  subst ej
  simp only
  rw [aQ]
  have hkey : (((es.map (mkE enc)).toArray[j]?).map (·.key)).getD (enc a) = enc a := by
   simp [hkl, mkE, ea]
  unfold Instr.keyThatStays
  rw [hkey, T.same]
  simp only [if_true]
  refine AY h1 rfl (hk _ (Fr.set _ _ rfl) (by simp) ⟨es.set j (a, v, es[j].2.2), c, ?_, ?_, ?_⟩)
  ·unfold GD
   rw [l6 h1, Nc hkl _ (a, v, es[j].2.2) (by simp [mkE])]
  ·refine ⟨?_, ?_, fun e he => ?_⟩
   ·rw [Dz]; show ((es.map (·.1)).set j a).Nodup
    have : (es.map (·.1)).set j a = es.map (·.1) := by
     have := AM (es.map (·.1)) j (by simpa using hkl)
     simp only [List.getElem_map, ea] at this; exact this
    rw [this]; exact h2.keys
   ·rw [Dz]; show ((es.map (·.2.2)).set j es[j].2.2).Nodup
    have : (es.map (·.2.2)).set j es[j].2.2 = es.map (·.2.2) := by
     have := AM (es.map (·.2.2)) j (by simpa using hkl)
     simp only [List.getElem_map] at this; exact this
    rw [this]; exact h2.borns
   ·rcases List.mem_or_eq_of_mem_set he with he | rfl
    ·exact h2.lt e he
    ·exact (h2.lt _ (List.getElem_mem hkl) : es[j].2.2 < c)
  ·have hs : (pT (es.map prE) a).isSome = true := tR.2 ⟨prE es[j], List.mem_map_of_mem (List.getElem_mem hkl), ea⟩
   unfold E3
   rw [if_pos hs, KY (k := j) (a := a) (by rw [List.map_map]; exact h2.keys) (by simpa using hkl) (by simp [prE, ea]) v, Dz]
   rfl
theorem Fg {h : aB} {K : Nat → aB → Prop} (enc : κ → Value) (hk : ∀ r h', Fr (fun _ => False) h h' → r = h.size → wH enc h' r [] → K r h') : FR h K :=
 hk _ _ (Fr.push _ _ _) rfl ⟨[], 0, dN, ⟨by simp, by simp, fun _ h => by cases h⟩, rfl⟩
end
end Go.Proofs.YtjmfpeiidlpngaaGreatDoor
namespace Go.Proofs.YtjmfpeiidlpngaaGreatDoor
set_option linter.unusedSimpArgs false
set_option linter.unusedVariables false
set_option maxRecDepth 20000
open Go
section
variable {P : Program}
theorem DX {et : TypeId} {i : TypeInfo} {z : Value} (hi : P.info? et = some i) (hz : i.zero = some z) {h : aB} {K : Value → aB → Prop} (hk : K z h) : wpH P (zeroValue et) K h := by
 unfold zeroValue; simp only [bind]; rw [aQ]; refine kw hi ?_
 rw [hz]; exact hk
end
end Go.Proofs.YtjmfpeiidlpngaaGreatDoor
namespace Go.Proofs.YtjmfpeiidlpngaaGreatDoor
set_option linter.unusedSimpArgs false
set_option linter.unusedVariables false
set_option maxRecDepth 20000
open Go
section
variable {P : Program} {kt : TypeId}
theorem Gf {v : Value} {d : TypeDesc} (hu : P.underlying kt = some d) (h1 : ∀ l t, d ≠ .array l t) (h2 : ∀ f, d ≠ .struct f) (h3 : ∀ m, d ≠ .interface m) (b : Bool) {h : aB} {K : Unit → aB → Prop} (hk : K () h) : wpH P (Instr.checkKey b (9999 + 1) kt v) K h := by
 unfold Instr.checkKey
 simp only [bind]
 rw [aQ]
 refine bU hu ?_
 cases d <;> first | exact hk | exact absurd rfl (h1 _ _) | exact absurd rfl (h2 _) | exact absurd rfl (h3 _)
theorem x7 {κ : Type} [DecidableEq κ] {enc : κ → Value} {d : TypeDesc} (hs : ∀ a b, Instr.sameNow d (enc a) (enc b) = some (decide (a = b))) (a : κ) : ∀ (es : List (Ent κ)) (i : Nat), Instr.findNow d (enc a) (es.map (mkE enc)) i = some (tL a es i)
 | [], _ => rfl
 | e :: es, i => by
  rw [List.map_cons]
  unfold Instr.findNow tL
  show (match Instr.sameNow d (enc a) (enc e.1) with | some true => some (some (i, e.2.1)) | some false => Instr.findNow d (enc a) (es.map (mkE enc)) (i + 1) | none => none) = _
  rw [hs]
  by_cases h : a = e.1
  ·rw [decide_eq_true h, if_pos h]
  ·rw [decide_eq_false h, if_neg h]
   exact x7 hs a es (i + 1)
theorem H4 {κ : Type} [DecidableEq κ] {enc : κ → Value} {d : TypeDesc} (hu : P.underlying kt = some d) (hs : ∀ a b, Instr.sameNow d (enc a) (enc b) = some (decide (a = b))) (a : κ) (es : List (Ent κ)) {h : aB} {K : Option (Nat × Value) → aB → Prop} (hk : K (tL a es 0) h) : wpH P (Instr.findKey kt (enc a) (es.map (mkE enc))) K h := by
 unfold Instr.findKey
 simp only [bind]
 rw [aQ]
 refine bU hu ?_
 rw [x7 hs a es 0]
 exact hk
def Bn (k : IntKind) (n : Int) : Value := .int k n
theorem KB {k : IntKind} (hu : P.underlying kt = some (.int k)) : KJ P kt (Bn k) :=
  ⟨fun a => by show (k == k && a == a) = true; simp, fun b a {h K} hk => Gf hu (fun _ _ h => by cases h) (fun _ h => by cases h) (fun _ h => by cases h) b hk,
   fun a es {h K} hk => H4 hu (fun a b => by show (if k = k then some (a == b) else none) = _; rw [if_pos rfl]; congr 1) a es hk⟩
end
section
variable {κ : Type} [DecidableEq κ]
theorem H9 {m : List (κ × Value)} {a : κ} (h : pT m a = none) : ∀ e ∈ m, e.1 ≠ a := fun e he hk => by
 have : (pT m a).isSome = true := tR.2 ⟨e, he, hk⟩
 rw [h] at this; cases this
theorem HZ {m : List (κ × Value)} {a : κ} {v : Value} (h : pT m a = some v) : (a, v) ∈ m := by
 unfold pT at h
 rw [Option.map_eq_some_iff] at h
 obtain ⟨e, h1, h2⟩ := h
 have h3 := List.mem_of_find?_eq_some h1
 have h4 := List.find?_some h1
 rw [decide_eq_true_eq] at h4
 rw [← h4, ← h2]; exact h3
theorem K5 {m : List (κ × Value)} {a : κ} (h : ∀ e ∈ m, e.1 ≠ a) (v : Value) : E3 m a v = m ++ [(a, v)] := by
 have hs : ¬ (pT m a).isSome = true := fun hh => by
  obtain ⟨e, he, ek⟩ := tR.1 hh
  exact h e he ek
 unfold E3
 rw [if_neg hs]
end
end Go.Proofs.YtjmfpeiidlpngaaGreatDoor
namespace Go.Proofs.YtjmfpeiidlpngaaGreatDoor.Fp
set_option linter.unusedSimpArgs false
set_option linter.unusedVariables false
set_option maxRecDepth 20000
open Go
def wz (c : UInt8) : Bool := (decide (97 ≤ c.toNat) && decide (c.toNat ≤ 122)) || (decide (65 ≤ c.toNat) && decide (c.toNat ≤ 90)) || (decide (48 ≤ c.toNat) && decide (c.toNat ≤ 57)) || c.toNat == 32
theorem Jp [Gh] (c : UInt8) {h : aB} {Q : Value → aB → Prop} (hk : Q (.bool (wz c)) h) : aD Tryz.prog kS #[.int .u8 c.toNat] h Q := by
 refine vr _ ?_
 simp only [pP]
 unfold wz at hk
 have e32 : ((c.toNat : Int) == 32) = (c.toNat == 32) := by rw [Bool.eq_iff_iff, beq_iff_eq, beq_iff_eq]; omega
 have d1 : decide ((c.toNat : Int) ≥ 97) = decide (97 ≤ c.toNat) := by rw [decide_eq_decide]; omega
 have d2 : decide ((c.toNat : Int) ≤ 122) = decide (c.toNat ≤ 122) := by rw [decide_eq_decide]; omega
 have d3 : decide ((c.toNat : Int) ≥ 65) = decide (65 ≤ c.toNat) := by rw [decide_eq_decide]; omega
 have d4 : decide ((c.toNat : Int) ≤ 90) = decide (c.toNat ≤ 90) := by rw [decide_eq_decide]; omega
 have d5 : decide ((c.toNat : Int) ≥ 48) = decide (48 ≤ c.toNat) := by rw [decide_eq_decide]; omega
 have d6 : decide ((c.toNat : Int) ≤ 57) = decide (c.toNat ≤ 57) := by rw [decide_eq_decide]; omega
 rw [d1, d2, d3, d4, d5, d6, e32]
 revert hk
 cases decide (97 ≤ c.toNat) <;> cases decide (c.toNat ≤ 122) <;> cases decide (65 ≤ c.toNat) <;> cases decide (c.toNat ≤ 90) <;> cases decide (48 ≤ c.toNat) <;> cases decide (c.toNat ≤ 57) <;> intro hk <;> simpa using hk
theorem Ih [Gh] (c : UInt8) {h : aB} {Q : Value → aB → Prop} (hk : Q (.bool (wz c)) h) : aD Tryz.prog qk #[.int .u8 c.toNat] h Q := by
 refine Bk _ ?_
 simp only [vU]
 unfold wz at hk
 have e32 : ((c.toNat : Int) == 32) = (c.toNat == 32) := by rw [Bool.eq_iff_iff, beq_iff_eq, beq_iff_eq]; omega
 have d1 : decide ((c.toNat : Int) ≥ 97) = decide (97 ≤ c.toNat) := by rw [decide_eq_decide]; omega
 have d2 : decide ((c.toNat : Int) ≤ 122) = decide (c.toNat ≤ 122) := by rw [decide_eq_decide]; omega
 have d3 : decide ((c.toNat : Int) ≥ 65) = decide (65 ≤ c.toNat) := by rw [decide_eq_decide]; omega
 have d4 : decide ((c.toNat : Int) ≤ 90) = decide (c.toNat ≤ 90) := by rw [decide_eq_decide]; omega
 have d5 : decide ((c.toNat : Int) ≥ 48) = decide (48 ≤ c.toNat) := by rw [decide_eq_decide]; omega
 have d6 : decide ((c.toNat : Int) ≤ 57) = decide (c.toNat ≤ 57) := by rw [decide_eq_decide]; omega
 rw [d1, d2, d3, d4, d5, d6, e32]
 revert hk
 cases decide (97 ≤ c.toNat) <;> cases decide (c.toNat ≤ 122) <;> cases decide (65 ≤ c.toNat) <;> cases decide (c.toNat ≤ 90) <;> cases decide (48 ≤ c.toNat) <;> cases decide (c.toNat ≤ 57) <;> intro hk <;> simpa using hk
def mW (seen : List UInt8) : Array Value := ((List.range 256).map fun i => Value.bool (seen.contains (UInt8.ofNat i))).toArray
theorem Bt (seen : List UInt8) : (mW seen).size = 256 := by simp [mW]
theorem HS (seen : List UInt8) (c : UInt8) : (mW seen)[c.toNat]? = some (.bool (seen.contains c)) := by
 have hc := c.toNat_lt
 unfold mW
 rw [List.getElem?_toArray, List.getElem?_map, List.getElem?_range (by omega)]
 simp
theorem Hx (seen : List UInt8) (c : UInt8) : (mW seen).setIfInBounds c.toNat (.bool true) = mW (c :: seen) := by
 have hc := c.toNat_lt
 apply Array.ext_getElem?
 intro i
 rw [Array.getElem?_setIfInBounds]
 unfold mW
 rw [List.getElem?_toArray, List.getElem?_map, List.getElem?_toArray, List.getElem?_map]
 by_cases hi : i < 256
 ·rw [List.getElem?_range hi]
  by_cases e : c.toNat = i
  ·subst e; simp [hc]
  ·rw [if_neg e]
   have : (UInt8.ofNat i == c) = false := by
    rw [beq_eq_false_iff_ne]
    intro h; apply e; rw [← h]; simp; omega
   simp only [Option.map_some, List.contains_cons, this, Bool.false_or]
 ·rw [List.getElem?_eq_none (by simp; omega), if_neg (by omega)]; rfl
def kZ : List UInt8 → List UInt8 → Int → Int
 | [], _, n => n
 | c :: r, seen, n => kZ r (c :: seen) (n + (if seen.contains c then 0 else 16) - (if wz c then 8 else 0))
def qm (s : List UInt8) : Int := if s = [] then 0 else if 1 > kZ s [] s.length then 1 else kZ s [] s.length
theorem GJ {h : aB} {a : Addr} {T : TypeId} {seen : List UInt8} (o : Own h a (mW seen).toList T) (c : UInt8) : hcell h (a.add ((c.toNat : Int).toNat * 1)) = some (.bool (seen.contains c)) := by
 rw [Int.toNat_natCast, Nat.mul_one]
 refine o.cells.at ?_
 have := HS seen c
 simpa using this
theorem CL : (mW []).toList = List.replicate 256 (Value.bool false) := by
 unfold mW
 simp only [List.contains_nil]
 rw [List.map_const']; simp
theorem D9 (seen : List UInt8) (c : UInt8) : (mW seen).toList.set c.toNat (.bool true) = (mW (c :: seen)).toList := by
 rw [← Hx]; simp
theorem yb (s seen : List UInt8) (n : Int) (k : Nat) (hk : k < s.length) : kZ (s.drop k) seen n = kZ (s.drop (k + 1)) (s.getD k 0 :: seen) (n + (if seen.contains (s.getD k 0) then 0 else 16) - (if wz (s.getD k 0) then 8 else 0)) := by
 rw [List.drop_eq_getElem_cons hk, kZ]
 rw [List.getD_eq_getElem?_getD, List.getElem?_eq_getElem hk]; rfl
theorem ET {seen : List UInt8} {c : UInt8} (h : seen.contains c = true) : mW (c :: seen) = mW seen := by
 unfold mW
 congr 1
 apply List.map_congr_left
 intro i _
 rw [List.contains_cons]
 by_cases e : UInt8.ofNat i = c
 ·rw [e, h]; simp
 ·have : (UInt8.ofNat i == c) = false := by simpa using e
  rw [this, Bool.false_or]
theorem GL [Gh] (s : List UInt8) (hs : s.length < 2 ^ 40) {h : aB} {Q : Value → aB → Prop} (hk : ∀ h', Fr (fun _ => False) h h' → Q (.int .i64 (qm s)) h') :
  aD Tryz.prog jj #[.string (bs s)] h Q := by
 refine wI _ ?_
 unfold qw
 refine An (fun e => ?_) (fun e => ?_)
 ·subst e; exact hk _ (Fr.refl _ _)
 refine aU fun a h1 f1 ha o1 => ?_
 have o1 : Own h1 a (List.replicate 256 (Value.bool false)) rL := Nj (by as_aux_lemma => kernel_rfl) o1
 rw [aX]
 rw [← CL] at o1
 refine aH.mk (fun st h' => ∃ (k : Nat) (seen : List UInt8), st.2 = k ∧ k ≤ s.length ∧ Fr (fun _ => False) h h' ∧ Own h' a (mW seen).toList rL ∧ kZ (s.drop k) seen st.1 = kZ s [] s.length ∧ st.1 ≤ s.length + 16 * k ∧ (s.length : Int) - 8 * k ≤ st.1) (fun st _ => s.length - st.2.toNat)
  ⟨0, [], rfl, by omega, f1, o1, rfl, by simp, by simp⟩ ?_
 rintro ⟨n, i⟩ h2 ⟨k, seen, hi, hkl, f2, o2, hg, hn1, hn2⟩
 simp only at hi hg hn1 hn2
 subst hi
 unfold lH
 refine ifD (fun hlt => ?_) (fun hge => ?_)
 ·have hks : k < s.length := by omega
  have hc := (s.getD k 0).toNat_lt
  refine wt _ _ _ (by omega) (by omega) ?_
  rw [Int.toNat_natCast]
  refine ⟨by omega, by omega, aG (GJ o2 _) ?_⟩
  have rest : ∀ (n' : Int) (h3 : aB), Fr (fun _ => False) h h3 → Own h3 a (mW (s.getD k 0 :: seen)).toList rL → n' = n + (if seen.contains (s.getD k 0) then 0 else 16) →
    gT (bs s) a n' k s.length k Q (fun s' h' => (∃ (k : Nat) (seen : List UInt8), s'.2 = k ∧ k ≤ s.length ∧ Fr (fun _ => False) h h' ∧ Own h' a (mW seen).toList rL ∧ kZ (s.drop k) seen s'.1 = kZ s [] s.length ∧ s'.1 ≤ s.length + 16 * k ∧ (s.length : Int) - 8 * k ≤ s'.1) ∧ s.length - s'.2.toNat < s.length - ((k : Int)).toNat) h3 := by
   intro n' h3 f3 o3 en
   unfold gT
   refine wt _ _ _ (by omega) (by omega) ?_
   rw [Int.toNat_natCast]
   refine Jp _ ⟨_, rfl, ?_⟩
   have hb : (if seen.contains (s.getD k 0) then (0 : Int) else 16) ≤ 16 ∧ 0 ≤ (if seen.contains (s.getD k 0) then (0 : Int) else 16) := by split <;> omega
   rw [yb s seen n k hks, ← en] at hg
   rw [wr (x := (k : Int) + 1) (by omega) (by omega)]
   refine ifB (fun hcm => ?_) (fun hcm => ?_)
   ·rw [wr (by omega) (by omega)]
    rw [hcm, if_pos rfl] at hg
    exact ⟨⟨k + 1, _, by simp, by omega, f3, o3, hg, by simp only; omega, by simp only; omega⟩, by simp only; omega⟩
   ·rw [hcm, if_neg (by simp), Int.sub_zero] at hg
    exact ⟨⟨k + 1, _, by simp, by omega, f3, o3, hg, by simp only; omega, by simp only; omega⟩, by simp only; omega⟩
  refine ifN (fun hs0 => ?_) (fun hs1 => ?_)
  ·refine wt _ _ _ (by omega) (by omega) ?_
   rw [Int.toNat_natCast]
   refine ⟨by omega, by omega, ?_⟩
   rw [Int.toNat_natCast, Nat.mul_one]
   refine cO o2 _ (by rw [Array.length_toList, Bt]; omega) rfl fun h3 f3 _ o3 => ?_
   rw [D9] at o3
   rw [wr (by omega) (by omega)]
   have hab := ha
   refine rest _ h3 (f2.tr f3 (fun x hx e => ?_)) o3 (by rw [hs0]; simp)
   subst e; rw [ha] at hx; exact absurd hx (Nat.lt_irrefl _)
  ·refine rest _ h2 f2 (by rw [ET hs1]; exact o2) (by rw [hs1]; simp)
 ·have : k = s.length := by omega
  subst this
  unfold lE
  rw [List.drop_length] at hg
  have : qm s = (if (1 : Int) > n then (1 : Int) else n) := by
   unfold qm
   rw [if_neg e, ← hg]; rfl
  rw [← this]
  exact hk _ f2
end Go.Proofs.YtjmfpeiidlpngaaGreatDoor.Fp
namespace Go.Proofs.YtjmfpeiidlpngaaGreatDoor.Fp
set_option linter.unusedSimpArgs false
set_option linter.unusedVariables false
set_option maxRecDepth 20000
open Go
theorem DA : gU Tryz.prog qL zu Tryz.t4 (.bool false) := ⟨Tryz.underlying102, by kernel_rfl, by kernel_rfl, by kernel_rfl, by decide⟩
theorem xL [Gh] (s : List UInt8) (hs : s.length < 2 ^ 40) {h : aB} {Q : Value → aB → Prop} (hk : ∀ h', Fr (fun _ => False) h h' → Q (.int .i64 (qm s)) h') :
  aD Tryz.prog jU #[.string (bs s)] h Q := by
 refine Ci _ ?_
 unfold wX
 refine An (fun e => ?_) (fun e => ?_)
 ·subst e; exact hk _ (Fr.refl _ _)
 refine xM DA 256 (by decide) (by decide) fun a h1 f1 ha o1 => ⟨_, _, _, rfl, ?_⟩
 have o1 : Own h1 a (List.replicate 256 (Value.bool false)) zu := by
  have e1 : (List.replicate 256 (Value.bool false).cells.toList).flatten = List.replicate 256 (Value.bool false) := by
   show (List.replicate 256 [Value.bool false]).flatten = _
   simp
  rw [e1] at o1; exact o1
 rw [aX]
 rw [← CL] at o1
 refine aH.mk (fun st h' => ∃ (k : Nat) (seen : List UInt8), st.2 = k ∧ k ≤ s.length ∧ Fr (fun _ => False) h h' ∧ Own h' a (mW seen).toList zu ∧ kZ (s.drop k) seen st.1 = kZ s [] s.length ∧ st.1 ≤ s.length + 16 * k ∧ (s.length : Int) - 8 * k ≤ st.1) (fun st _ => s.length - st.2.toNat)
  ⟨0, [], rfl, by omega, f1, o1, rfl, by simp, by simp⟩ ?_
 rintro ⟨n, i⟩ h2 ⟨k, seen, hi, hkl, f2, o2, hg, hn1, hn2⟩
 simp only at hi hg hn1 hn2
 subst hi
 unfold rK
 refine ifD (fun hlt => ?_) (fun hge => ?_)
 ·rw [aX] at hlt
  have hks : k < s.length := by omega
  have hc := (s.getD k 0).toNat_lt
  refine wt _ _ _ (by omega) (by omega) ?_
  rw [Int.toNat_natCast]
  refine ⟨by omega, by omega, aG (GJ o2 _) ?_⟩
  have rest : ∀ (n' : Int), n' = n + (if seen.contains (s.getD k 0) then 0 else 16) →
    lN (bs s) n' (some a) 256 256 k Q (fun s' h' => (∃ (k : Nat) (seen : List UInt8), s'.2 = k ∧ k ≤ s.length ∧ Fr (fun _ => False) h h' ∧ Own h' a (mW seen).toList zu ∧ kZ (s.drop k) seen s'.1 = kZ s [] s.length ∧ s'.1 ≤ s.length + 16 * k ∧ (s.length : Int) - 8 * k ≤ s'.1) ∧ s.length - s'.2.toNat < s.length - ((k : Int)).toNat) h2 := by
   intro n' en
   unfold lN
   refine wt _ _ _ (by omega) (by omega) ?_
   rw [Int.toNat_natCast]
   refine ⟨by omega, by omega, aV ?_⟩
   rw [Int.toNat_natCast, Nat.mul_one]
   refine cO o2 _ (by rw [Array.length_toList, Bt]; omega) rfl fun h3 f3' _ o3 => ?_
   rw [D9] at o3
   have f3 : Fr (fun _ => False) h h3 := f2.tr f3' (fun x hx e => by subst e; rw [ha] at hx; exact absurd hx (Nat.lt_irrefl _))
   refine wt _ _ _ (by omega) (by omega) ?_
   rw [Int.toNat_natCast]
   refine Ih _ ⟨_, rfl, ?_⟩
   have hb : (if seen.contains (s.getD k 0) then (0 : Int) else 16) ≤ 16 ∧ 0 ≤ (if seen.contains (s.getD k 0) then (0 : Int) else 16) := by split <;> omega
   rw [yb s seen n k hks, ← en] at hg
   rw [wr (x := (k : Int) + 1) (by omega) (by omega)]
   refine ifB (fun hcm => ?_) (fun hcm => ?_)
   ·rw [wr (by omega) (by omega)]
    rw [hcm, if_pos rfl] at hg
    exact ⟨⟨k + 1, _, by simp, by omega, f3, o3, hg, by simp only; omega, by simp only; omega⟩, by simp only; omega⟩
   ·rw [hcm, if_neg (by simp), Int.sub_zero] at hg
    exact ⟨⟨k + 1, _, by simp, by omega, f3, o3, hg, by simp only; omega, by simp only; omega⟩, by simp only; omega⟩
  refine ifN (fun hs0 => ?_) (fun hs1 => ?_)
  ·rw [wr (by omega) (by omega)]
   exact rest _ (by rw [hs0]; simp)
  ·exact rest _ (by rw [hs1]; simp)
 ·rw [aX] at hge
  have : k = s.length := by omega
  subst this
  unfold rM
  rw [List.drop_length] at hg
  have : qm s = (if (1 : Int) > n then (1 : Int) else n) := by
   unfold qm
   rw [if_neg e, ← hg]; rfl
  rw [← this]
  exact hk _ f2
def fK (c : UInt8) : UInt8 := if 65 ≤ c.toNat ∧ c.toNat ≤ 90 then c + 32 else c
theorem GA (c : UInt8) (h1 : 65 ≤ c.toNat) (h2 : c.toNat ≤ 90) : ((fK c).toNat : Int) = c.toNat + 32 := by
 unfold fK; rw [if_pos ⟨h1, h2⟩, UInt8.toNat_add]
 have : (32 : UInt8).toNat = 32 := rfl
 rw [this]; omega
def mZ (s : List UInt8) (k : Nat) : List UInt8 := (s.take k).map fK ++ s.drop k
theorem sZ (s : List UInt8) (k : Nat) : (mZ s k).length = s.length := by unfold mZ; simp; omega
theorem Gu (s : List UInt8) : mZ s 0 = s := by simp [mZ]
theorem CE (s : List UInt8) : mZ s s.length = s.map fK := by simp [mZ]
theorem za (s : List UInt8) (k : Nat) (hk : k < s.length) : (mZ s k)[k]? = some (s.getD k 0) := by
 unfold mZ
 rw [List.getElem?_append_right (by simp; omega)]
 simp [Nat.min_eq_left (Nat.le_of_lt hk), hk]
theorem xD (s : List UInt8) (k : Nat) (hk : k < s.length) : mZ s (k + 1) = (mZ s k).set k (fK (s.getD k 0)) := by
 apply List.ext_getElem?
 intro i
 unfold mZ
 rw [List.getElem?_set]
 by_cases h1 : i < k
 ·rw [List.getElem?_append_left (by simp; omega), if_neg (by omega), List.getElem?_append_left (by simp; omega)]
  simp [h1, Nat.lt_succ_of_lt h1]
 ·by_cases h2 : i = k
  ·subst h2
   rw [List.getElem?_append_left (by simp; omega), if_pos rfl, if_pos (by simp; omega)]
   simp [hk]
  ·rw [List.getElem?_append_right (by simp; omega), if_neg (by omega), List.getElem?_append_right (by simp; omega)]
   simp only [List.length_map, List.length_take, List.getElem?_drop]
   congr 1; omega
def BW (h : aB) (a : Option Addr) (c : Nat) (l : List UInt8) : Prop := sj h a c 1 (dW l)
theorem BW.at {h : aB} {a : Option Addr} {c : Nat} {l : List UInt8} (o : BW h a c l) {k : Nat} (hk : k < l.length) : ∃ ad, a = some ad ∧ hcell h (ad.add k) = some (.int .u8 (l.getD k 0).toNat) := by
 cases a with
 | none => have := o.1; simp [dW] at this; subst this; simp at hk
 | some ad =>
  refine ⟨ad, rfl, ?_⟩
  refine o.cells.at ?_
  simp [dW, yM, hk]
theorem BW.set {h : aB} {ad : Addr} {c : Nat} {l : List UInt8} (o : BW h (some ad) c l) {k : Nat} (hk : k < l.length) (b : UInt8) {K : aB → Prop}
  (hK : ∀ h', Fr (InA (some ad)) h h' → BW h' (some ad) c (l.set k b) → K h') : st1 h (ad.add k) (.int .u8 b.toNat) K := by
 obtain ⟨h1, h2, ds, t, fr, hfr, hg, hc1, hc2, hc3⟩ := o
 have e : ad.add k = ⟨ad.block, k, none⟩ := by
  obtain ⟨b, o, s⟩ := ad; simp only at h1 h2; subst h1 h2; rw [gN, Nat.zero_add]
 rw [jy] at hc2
 rw [e]
 refine ⟨rfl, by rw [kH hg, Array.getElem?_eq_getElem (by omega)]; rfl, rz hg hfr (by omega), ?_⟩
 rw [sU hg]
 refine hK _ (Fr.set _ _ ⟨ad, rfl, rfl⟩) ⟨h1, h2, _, t, fr, by simpa using hfr, l6 hg, by simpa using hc1, by simp [jy]; omega, ?_⟩
 intro i hi
 rw [jy, List.length_set] at hi
 rw [Array.getElem?_setIfInBounds]
 by_cases hik : k = i
 ·subst hik
  rw [if_pos rfl, if_pos (by omega)]
  simp [dW, yM, hi]
 ·rw [if_neg hik, hc3 i (by rw [jy]; exact hi)]
  simp [dW, yM, hik]
theorem Hj {s : List UInt8} {h : aB} {a : Option Addr} {c : Nat} (o : BW h a c s) : BW h a c (mZ s 0) := by rw [Gu]; exact o
theorem Fl (s : List UInt8) (k : Nat) (hk : k < s.length) (hn : ¬ (65 ≤ (s.getD k 0).toNat ∧ (s.getD k 0).toNat ≤ 90)) : mZ s (k + 1) = mZ s k := by
 rw [xD s k hk]
 have : fK (s.getD k 0) = s.getD k 0 := if_neg hn
 rw [this]
 apply List.ext_getElem?
 intro i
 rw [List.getElem?_set]
 split
 ·rename_i e; subst e
  rw [za s k hk, if_pos (by rw [sZ]; exact hk)]
 ·rfl
theorem AE [Gh] (s : List UInt8) (hs : s.length < 2 ^ 40) {h : aB} {Q : Value → aB → Prop} (hk : ∀ h', Fr (fun _ => False) h h' → Q (.string (bs (s.map fK))) h') :
  aD Tryz.prog lF #[.string (bs s)] h Q := by
 refine wP _ ?_
 unfold qz
 refine zx Tryz.underlying9 Tryz.underlying98 Tryz.underlying5 s fun a c h1 f1 ha o1 hc => ⟨_, _, _, rfl, ?_⟩
 refine aH.mk (fun i h' => ∃ k : Nat, i = k ∧ k ≤ s.length ∧ Fr (fun _ => False) h h' ∧ BW h' a c (mZ s k)) (fun i _ => s.length - i.toNat) ⟨0, rfl, by omega, f1, Hj o1⟩ ?_
 rintro i h2 ⟨k, rfl, hkl, f2, o2⟩
 unfold lR
 refine ifD (fun hlt => ?_) (fun hge => ?_)
 ·have hks : k < s.length := by omega
  obtain ⟨ad, rfl, hcell⟩ := o2.at (k := k) (by rw [sZ]; exact hks)
  have hgd : (mZ s k).getD k 0 = s.getD k 0 := by rw [List.getD_eq_getElem?_getD, za s k hks]; rfl
  rw [hgd] at hcell
  have hc8 := (s.getD k 0).toNat_lt
  refine bQ k rfl hks (aV ?_)
  rw [Int.toNat_natCast, Nat.mul_one]
  refine aA hcell ?_
  have skip : ¬ (65 ≤ (s.getD k 0).toNat ∧ (s.getD k 0).toNat ≤ 90) → (∃ k' : Nat, IntKind.wrap .i64 ((k : Int) + 1) = k' ∧ k' ≤ s.length ∧ Fr (fun _ => False) h h2 ∧ BW h2 (some ad) c (mZ s k')) ∧ s.length - (IntKind.wrap .i64 ((k : Int) + 1)).toNat < s.length - ((k : Int)).toNat := fun hn => by
   rw [wr (by omega) (by omega)]
   exact ⟨⟨k + 1, by omega, by omega, f2, by rw [Fl s k hks hn]; exact o2⟩, by omega⟩
  refine ifD (fun h65 => ?_) (fun h65 => skip (by omega))
  refine ifD (fun h90 => ?_) (fun h90 => skip (by omega))
  refine bQ k rfl hks (aV ?_)
  rw [wr8 (by omega) (by omega), ← GA _ (by omega) (by omega)]
  refine o2.set (by rw [sZ]; exact hks) _ fun h3 f3 o3 => ?_
  rw [← xD s k hks] at o3
  rw [wr (by omega) (by omega)]
  exact ⟨⟨k + 1, by omega, by omega, f2.tr f3 (fun x hx hi => absurd (ha x hi) (by omega)), o3⟩, by omega⟩
 ·have : k = s.length := by omega
  subst this
  rw [CE] at o2
  refine rm Tryz.underlying98 Tryz.underlying9 Tryz.underlying5 (l := s.map fK) (by simp) (fun ad hd => by subst hd; exact o2.cells) (fun hd => by subst hd; have := o2.1; simpa [dW] using this) ⟨_, rfl, ?_⟩
  exact hk _ f2
theorem Ki [Gh] (s : List UInt8) (hs : s.length < 2 ^ 40) {h : aB} {Q : Value → aB → Prop} (hk : ∀ h', Fr (fun _ => False) h h' → Q (.string (bs (s.map fK))) h') :
  aD Tryz.prog qX #[.string (bs s)] h Q := by
 refine Cd _ ?_
 unfold xh
 refine zx Tryz.underlying9 Tryz.underlying98 Tryz.underlying5 s fun a c h1 f1 ha o1 hc => ⟨_, _, _, rfl, ?_⟩
 refine aH.mk (fun i h' => ∃ k : Nat, i = k ∧ k ≤ s.length ∧ Fr (fun _ => False) h h' ∧ BW h' a c (mZ s k)) (fun i _ => s.length - i.toNat) ⟨0, rfl, by omega, f1, Hj o1⟩ ?_
 rintro i h2 ⟨k, rfl, hkl, f2, o2⟩
 unfold qW
 refine ifD (fun hlt => ?_) (fun hge => ?_)
 ·have hks : k < s.length := by omega
  obtain ⟨ad, rfl, hcell⟩ := o2.at (k := k) (by rw [sZ]; exact hks)
  have hgd : (mZ s k).getD k 0 = s.getD k 0 := by rw [List.getD_eq_getElem?_getD, za s k hks]; rfl
  rw [hgd] at hcell
  have hc8 := (s.getD k 0).toNat_lt
  refine bQ k rfl hks (aV ?_)
  rw [Int.toNat_natCast, Nat.mul_one]
  refine aA hcell ?_
  have skip : ¬ (65 ≤ (s.getD k 0).toNat ∧ (s.getD k 0).toNat ≤ 90) → (∃ k' : Nat, IntKind.wrap .i64 ((k : Int) + 1) = k' ∧ k' ≤ s.length ∧ Fr (fun _ => False) h h2 ∧ BW h2 (some ad) c (mZ s k')) ∧ s.length - (IntKind.wrap .i64 ((k : Int) + 1)).toNat < s.length - ((k : Int)).toNat := fun hn => by
   rw [wr (by omega) (by omega)]
   exact ⟨⟨k + 1, by omega, by omega, f2, by rw [Fl s k hks hn]; exact o2⟩, by omega⟩
  refine ifD (fun h65 => ?_) (fun h65 => skip (by omega))
  refine bQ k rfl hks (aV (aA hcell ?_))
  refine ifD (fun h90 => ?_) (fun h90 => skip (by omega))
  refine bQ k rfl hks (aV (aA hcell ?_))
  refine bQ k rfl hks (aV ?_)
  rw [wr8 (by omega) (by omega), ← GA _ (by omega) (by omega)]
  refine o2.set (by rw [sZ]; exact hks) _ fun h3 f3 o3 => ?_
  rw [← xD s k hks] at o3
  rw [wr (by omega) (by omega)]
  exact ⟨⟨k + 1, by omega, by omega, f2.tr f3 (fun x hx hi => absurd (ha x hi) (by omega)), o3⟩, by omega⟩
 ·have : k = s.length := by omega
  subst this
  rw [CE] at o2
  refine rm Tryz.underlying98 Tryz.underlying9 Tryz.underlying5 (l := s.map fK) (by simp) (fun ad hd => by subst hd; exact o2.cells) (fun hd => by subst hd; have := o2.1; simpa [dW] using this) ⟨_, rfl, ?_⟩
  exact hk _ f2
end Go.Proofs.YtjmfpeiidlpngaaGreatDoor.Fp
namespace Go.Proofs.YtjmfpeiidlpngaaGreatDoor.Fp
set_option linter.unusedSimpArgs false
set_option linter.unusedVariables false
set_option maxRecDepth 20000
open Go
abbrev Cn := aI
def Ar (c : Cn) : Bool := c.Not || c.Pattern.isEmpty
def rZ (c b : Cn) : Bool := decide (qm c.Pattern > qm b.Pattern) || (qm c.Pattern == qm b.Pattern && decide (c.Pattern.length > b.Pattern.length))
def noC : Cn := ⟨[], false, false, false, 0, 0, false⟩
def dD (all : List Cn) : List Cn → Nat → Int → Int
 | [], _, best => best
 | c :: r, k, best =>
  if Ar c then dD all r (k + 1) best
  else if c.Fast then k
  else if best < 0 then dD all r (k + 1) k
  else if rZ c (all.getD best.toNat noC) then dD all r (k + 1) k
  else dD all r (k + 1) best
def cY (all : List Cn) : Int := dD all all 0 (-1)
theorem xk (all : List Cn) (k : Nat) (hk : k < all.length) (best : Int) : dD all (all.drop k) k best =
  if Ar all[k] then dD all (all.drop (k + 1)) (k + 1) best
  else if all[k].Fast then k
  else if best < 0 then dD all (all.drop (k + 1)) (k + 1) k
  else if rZ all[k] (all.getD best.toNat noC) then dD all (all.drop (k + 1)) (k + 1) k
  else dD all (all.drop (k + 1)) (k + 1) best := by
 rw [List.drop_eq_getElem_cons hk, dD]
structure vz (cs : List Cn) : Prop where
 len : cs.length ≤ 70
 pat : ∀ c ∈ cs, c.Pattern.length ≤ 200
theorem JC [Gh] (r : aO) {h : aB} (ok : r.ok h) (sh : vz r.Contents.xs) {Q : Value → aB → Prop} (hk : ∀ h', Fr (fun _ => False) h h' → Q (.int .i64 (cY r.Contents.xs)) h') :
  aD Tryz.prog kV #[.agg r.vals.toArray] h Q := by
 apply vS
 unfold pN
 refine aU fun a h1 f1 ha o1 => ?_
 refine aC (o1.cells.at rfl) ?_
 have oc : bH 7 aI.vals aI.ok h1 r.Contents := bH.fr0 aI.ok_fr f1 ok.k14
 generalize hcs : r.Contents = C at *
 clear ok
 have hlen := sh.len
 refine aH.mk (fun st h' => ∃ k : Nat, st.2 = k ∧ k ≤ C.xs.length ∧ Fr (fun _ => False) h1 h' ∧ dD C.xs (C.xs.drop k) k st.1 = cY C.xs ∧ (st.1 = -1 ∨ ∃ b : Nat, st.1 = b ∧ b < C.xs.length)) (fun st _ => C.xs.length - st.2.toNat)
  ⟨0, rfl, by omega, Fr.refl _ _, rfl, .inl rfl⟩ ?_
 rintro ⟨best, i⟩ h2 ⟨k, hi, hkl, f2, hg, hb⟩
 simp only at hi hg hb
 subst hi
 unfold kN
 refine ifD (fun hlt => ?_) (fun hge => ?_)
 ·have hks : k < C.xs.length := by omega
  have oc2 := bH.fr0 aI.ok_fr f2 oc
  rw [xk _ k hks] at hg
  have hpat := sh.pat _ (List.getElem_mem hks)
  refine cL oc2 k rfl hks fun ad cc okc => ?_
  rw [Int.toNat_natCast]
  refine (aT (cc.at0 rfl) (aG (cc.at rfl) (aG (cc.at rfl) (aG (cc.at rfl) (aA (cc.at rfl) (aA (cc.at rfl) (aG (cc.at rfl) ?_)))))))
  refine oG rfl rfl fun t5 h3 f3 ht5 o5 => ?_
  have f13 := f2.trans f3
  have next : ∀ (b' : Int) (h' : aB), Fr (fun _ => False) h1 h' → dD C.xs (C.xs.drop (k + 1)) (k + 1) b' = cY C.xs → (b' = -1 ∨ ∃ b : Nat, b' = b ∧ b < C.xs.length) →
    (∃ k' : Nat, (b', IntKind.wrap .i64 ((k : Int) + 1)).2 = k' ∧ k' ≤ C.xs.length ∧ Fr (fun _ => False) h1 h' ∧ dD C.xs (C.xs.drop k') k' (b', IntKind.wrap .i64 ((k : Int) + 1)).1 = cY C.xs ∧ ((b', IntKind.wrap .i64 ((k : Int) + 1)).1 = -1 ∨ ∃ b : Nat, (b', IntKind.wrap .i64 ((k : Int) + 1)).1 = b ∧ b < C.xs.length)) ∧ C.xs.length - ((b', IntKind.wrap .i64 ((k : Int) + 1)).2).toNat < C.xs.length - k := by
   intro b' h' f' hg' hb'
   rw [wr (by omega) (by omega)]
   exact ⟨⟨k + 1, by simp, by omega, f', hg', hb'⟩, by simp only; omega⟩
  refine aG (o5.cells.at rfl) ?_
  refine ifB (fun hn => ?_) (fun hn => ?_)
  ·rw [if_pos (by simp [Ar, hn])] at hg
   exact next _ _ f13 hg hb
  refine aT (o5.cells.at0 rfl) ?_
  refine An (fun he => ?_) (fun he => ?_)
  ·rw [if_pos (by simp [Ar, he])] at hg
   exact next _ _ f13 hg hb
  rw [if_neg (by simp [Ar, hn, he])] at hg
  refine aG (o5.cells.at rfl) ?_
  refine ifB (fun hf => ?_) (fun hf => ?_)
  ·rw [if_pos hf] at hg
   have := hk _ (f1.trans f13)
   rw [← hg] at this; exact this
  rw [if_neg (by simp [hf])] at hg
  refine ifD (fun hneg => ?_) (fun hneg => ?_)
  ·rw [if_pos hneg] at hg
   exact next _ _ f13 hg (.inr ⟨k, rfl, hks⟩)
  rw [if_neg hneg] at hg
  obtain ⟨b, rfl, hbl⟩ : ∃ b : Nat, best = b ∧ b < C.xs.length := by
   rcases hb with hb | hb
   ·omega
   ·exact hb
  have o1' : Own h3 a _ _ := Own.fr0 f13 o1
  refine aC (o1'.cells.at rfl) ?_
  have oc3 := bH.fr0 aI.ok_fr f13 oc
  have hbpat := sh.pat _ (List.getElem_mem hbl)
  have eC : r.Contents.p = C.p ∧ r.Contents.xs.length = C.xs.length := by rw [hcs]; exact ⟨rfl, rfl⟩
  refine cL oc3 b rfl hbl fun ad2 cb okb => ?_
  rw [Int.toNat_natCast]
  refine (aT (cb.at0 rfl) (aG (cb.at rfl) (aG (cb.at rfl) (aG (cb.at rfl) (aA (cb.at rfl) (aA (cb.at rfl) (aG (cb.at rfl) ?_)))))))
  refine oG rfl rfl fun t6 h5 f5 ht6 o6 => ?_
  have o5' := Own.fr0 f5 o5
  refine aT (o5'.cells.at0 rfl) (aT (o6.cells.at0 rfl) ?_)
  refine GL _ (by omega) fun h6 f6 => ⟨_, rfl, ?_⟩
  have o6' := Own.fr0 f6 o6
  refine ⟨aT (o6'.cells.at0 rfl) rfl, ?_⟩
  refine GL _ (by omega) fun h7 f7 => ⟨_, rfl, ?_⟩
  have f17 := ((f13.trans f5).trans f6).trans f7
  have hgd : C.xs.getD ((b : Int)).toNat noC = C.xs[b] := by
   rw [Int.toNat_natCast, List.getD_eq_getElem?_getD, List.getElem?_eq_getElem hbl]; rfl
  rw [hgd] at hg
  have win : rZ C.xs[k] C.xs[b] = true → dD C.xs (C.xs.drop (k + 1)) (k + 1) k = cY C.xs := fun hw => by rw [if_pos hw] at hg; exact hg
  have lose : rZ C.xs[k] C.xs[b] = false → dD C.xs (C.xs.drop (k + 1)) (k + 1) b = cY C.xs := fun hw => by rw [if_neg (by simp [hw])] at hg; exact hg
  refine ifD (fun hgt => ?_) (fun hgt => ?_)
  ·exact next _ _ f17 (win (by simp [rZ, hgt])) (.inr ⟨k, rfl, hks⟩)
  refine ifE (fun heq => ?_) (fun hne => ?_)
  ·have o5'' := Own.fr0 f7 (Own.fr0 f6 o5')
   have o6'' := Own.fr0 f7 o6'
   refine aT (o5''.cells.at0 rfl) (aT (o6''.cells.at0 rfl) ?_)
   rw [aX, aX]
   refine ifD (fun hl => ?_) (fun hl => ?_)
   ·exact next _ _ f17 (win (by unfold rZ; rw [heq]; simp; omega)) (.inr ⟨k, rfl, hks⟩)
   ·exact next _ _ f17 (lose (by unfold rZ; rw [heq]; simp; omega)) (.inr ⟨b, rfl, hbl⟩)
  ·exact next _ _ f17 (lose (by unfold rZ; simp [hne]; omega)) (.inr ⟨b, rfl, hbl⟩)
 ·have : k = C.xs.length := by omega
  subst this
  rw [List.drop_length] at hg
  have := hk _ (f1.trans f2)
  rw [← hg] at this; exact this
end Go.Proofs.YtjmfpeiidlpngaaGreatDoor.Fp
namespace Go.Proofs.YtjmfpeiidlpngaaGreatDoor
set_option linter.unusedSimpArgs false
set_option linter.unusedVariables false
set_option maxRecDepth 20000
open Go
section
variable {P : Program}
theorem xx {b : Builtin} {ts : Array TypeId} {ty : TypeId} {cs : Array Bool} {args : Array Value} {s : Sem Value} {h : aB} {K : Value → aB → Prop}
  (hb : builtin b ts ty cs args = (do pure (.value (← s)))) (hk : wpH P s K h) : cQ P b ts ty cs args h K := by
 unfold cQ; rw [hb]; simp only [bind]; rw [aQ]; exact hk
theorem JD {dT sT ty e T : TypeId} {cs : Array Bool} (hd : P.underlying dT = some (.slice e)) (he : (P.info? e).isSome) (hz : gW P e = 1) {h : aB} {a : Addr} {vs : List Value} (o : Own h a vs T) (l : List UInt8)
  (hl : vs.length = l.length) {c : Nat} {K : Value → aB → Prop} (hk : ∀ h', Fr (fun b => b = a.block) h h' → Own h' a (dW l) T → K (.int .i64 l.length) h') :
  cQ P .copy #[dT, sT] ty cs #[.slice (some a) l.length c, .string (bs l)] h K := by
 refine xx (s := Builtin.copy_ #[dT, sT] ty #[.slice (some a) l.length c, .string (bs l)]) rfl ?_
 unfold Builtin.copy_
 simp only [List.getElem?_toArray, List.getElem?_cons_zero, List.getElem?_cons_succ, bind]
 rw [aQ]; refine bU hd ?_
 simp only
 unfold Builtin.lenOf
 simp only [pure, Sem.bind]
 rw [aQ]; refine tw he ?_
 have hsz : (bs l).size = l.length := aX l
 have hmin : Nat.min l.length l.length = l.length := Nat.min_self _
 rw [hz, hsz, hmin, aQ]
 unfold Builtin.firstCells
 simp only [pure, wpH, Nat.mul_one]
 have hx : ((bs l).extract 0 l.length).data.map (fun b => Value.int .u8 b.toNat) = (dW l).toArray := by
  have : (bs l).extract 0 l.length = bs l := by rw [uE]; simp
  rw [this]; apply Array.ext'; simp [bs, dW, yM]
 rw [hx]
 rw [aQ]
 have hadd : ∀ i, a.add i = ⟨a.block, 0 + i, none⟩ := fun i => by rw [o.mk_eq, gN]
 refine te hadd (dW l) 0 _ h o.blk (.inl rfl) (DS l) (by simp [jy, hl]) ?_
 simp only [wpH, goInt]
 refine hk _ (Fr.set _ _ rfl) ⟨o.off, o.spot, ?_⟩
 rw [l6 o.blk]
 rw [xG (dW l) vs (by rw [jy, hl])]
theorem xg {h : aB} {K : ByteArray → aB → Prop} : ∀ (l : List UInt8) (a : Addr) (acc : ByteArray), (∀ j, j < l.length → hcell h (a.add j) = some (.int .u8 (l.getD j 0).toNat)) → K ⟨acc.data ++ l.toArray⟩ h → wpH P (loadBytes a acc l.length) K h
 | [], a, acc, _, hk => by simpa [loadBytes, pure, wpH] using hk
 | x :: l, a, acc, hc, hk => by
  have h0 := hc 0 (by simp)
  unfold loadBytes
  simp only [List.length_cons, bind]
  refine ⟨_, h0, ?_⟩
  have hx : ((((x :: l).getD 0 0).toNat : Int)).toNat.toUInt8 = x := by simp
  simp only [Sem.bind]
  rw [hx]
  refine xg l (a.add 1) (acc.push x) (fun j hj => ?_) ?_
  ·have := hc (j + 1) (by simp; omega)
   have e : (a.add 1).add j = a.add (j + 1) := by
    unfold Addr.add
    obtain ⟨b, o, s⟩ := a
    cases j <;> simp [Nat.add_assoc, Nat.add_comm]
   rw [e, this]; simp
  ·have : (acc.push x).data ++ l.toArray = acc.data ++ (x :: l).toArray := by simp [ByteArray.push]
   rw [this]; exact hk
theorem DV {pt iT ty e : TypeId} {cs : Array Bool} (hp : P.underlying pt = some (.pointer e)) (hc : P.cellsOf e = 1) {h : aB} {a : Addr} {l : List UInt8} (o : Own h a (dW l) e) (hl : l.length ≤ 9223372036854775807)
  {K : Value → aB → Prop} (hk : ∀ h', Fr (fun b => b = a.block) h h' → K (.string (bs l)) h') : cQ P .unsafeString #[pt, iT] ty cs #[.pointer (some a), .int .i64 l.length] h K := by
 refine xx (s := Builtin.unsafeString_ #[pt, iT] ty #[.pointer (some a), .int .i64 l.length]) rfl ?_
 have hdef : Builtin.unsafeString_ #[pt, iT] ty #[.pointer (some a), .int .i64 (l.length : Int)] =
   (do
    if (l.length : Int) < 0 then runtimePanic (.error "unsafe.String: len out of range")
    if (l.length : Int) > IntKind.i64.max then unsupported (.unsafePointer "String: a length above the largest int")
    if (l.length : Int) = 0 then pure (.string .empty)
    else if ← variablesAt a (← elemOf pt) ((l.length : Int)).toNat then do
     let s ← loadBytes a .empty ((l.length : Int)).toNat
     freeze a ((l.length : Int)).toNat
     pure (.string s)
    else unsupported (.unsafePointer "String: not so many bytes at ptr")) := rfl
 rw [hdef]
 simp only [bind, pure, Sem.bind]
 rw [if_neg (by omega), if_neg (by rw [Ng]; omega)]
 by_cases h0 : l = []
 ·subst h0
  rw [if_pos (by simp)]
  exact hk h (Fr.refl _ _)
 ·have hne : ¬ ((l.length : Int) = 0) := by
   intro e; apply h0; exact List.length_eq_zero_iff.1 (by omega)
  rw [if_neg hne]
  unfold elemOf
  simp only [bind]
  rw [aQ, aQ]
  refine bU hp ?_
  simp only [pure, wpH]
  unfold variablesAt program shape
  simp only [bind, pure, Sem.bind, wpH]
  have hs : Dv h a.block = some (e, l.length) := by
   unfold Dv; rw [o.blk]; simp [jy]
  rw [hs]
  simp only [Sem.bind, wpH]
  rw [hc, Nat.div_one, o.off, Int.toNat_natCast, Lib.liesAt_bytes hc l.length l.length (Nat.le_refl _)]
  rw [if_pos rfl, aQ]
  refine xg l a .empty (fun j hj => ?_) ?_
  ·have := o.cells.at (j := j) (v := .int .u8 (l.getD j 0).toNat) (by simp [dW, yM, hj])
   exact this
  ·unfold freeze
   simp only [Sem.bind, wpH]
   have e1 : (⟨ByteArray.empty.data ++ l.toArray⟩ : ByteArray) = bs l := by
    have : ByteArray.empty.data ++ l.toArray = l.toArray := Array.empty_append
    rw [this]; rfl
   rw [e1]
   refine hk _ ⟨?_, fun b hb hn => ?_⟩
   ·unfold qI; split <;> simp
   ·unfold qI; split
    ·rfl
    ·rw [Array.getElem?_modify, if_neg (fun e => hn e.symm)]
end
end Go.Proofs.YtjmfpeiidlpngaaGreatDoor
namespace Go.Proofs.YtjmfpeiidlpngaaGreatDoor.Fp
set_option linter.unusedSimpArgs false
set_option linter.unusedVariables false
set_option maxRecDepth 20000
open Go
theorem JF [Gh] (c : Cn) {h : aB} {Q : Value → aB → Prop} (hk : ∀ h', Fr (fun _ => False) h h' → Q (.bool (!Ar c)) h') :
  aD Tryz.prog qh #[.agg c.vals.toArray] h Q := by
 apply Bi
 unfold vG
 refine aU fun a h1 f1 ha o1 => ?_
 refine aG (o1.cells.at rfl) ?_
 have hk := hk _ f1
 refine ifN (fun hn => ?_) (fun hn => ?_)
 ·refine aT (o1.cells.at0 rfl) ?_
  rw [jO]
  have : (!Ar c) = !(c.Pattern == (⟨#[]⟩ : ByteArray).toList) := by
   have e : (⟨#[]⟩ : ByteArray).toList = [] := jO []
   unfold Ar; rw [hn, e, Bool.false_or]
   cases c.Pattern <;> rfl
  rw [this] at hk; exact hk
 ·have : (!Ar c) = false := by unfold Ar; rw [hn]; rfl
  rw [this] at hk; exact hk
theorem Ij [Gh] (r : aO) {h : aB} (ok : r.ok h) (sh : vz r.Contents.xs) {Q : Value → aB → Prop} (hk : ∀ h', Fr (fun _ => False) h h' → Q (.int .i64 (cY r.Contents.xs)) h') :
  aD Tryz.prog qg #[.agg r.vals.toArray] h Q := by
 apply Bu
 unfold wg
 refine aU fun a h1 f1 ha o1 => ?_
 have oc : bH 7 aI.vals aI.ok h1 r.Contents := bH.fr0 aI.ok_fr f1 ok.k14
 have ld : ∀ h', Fr (fun _ => False) h1 h' → hcell h' (a.add 14) = some (.slice r.Contents.p r.Contents.xs.length r.Contents.cap) := fun h' f => (Own.fr0 f o1).cells.at rfl
 clear ok o1
 generalize r.Contents = C at *
 have hlen := sh.len
 refine aH.mk (fun st h' => ∃ k : Nat, st.2 = k ∧ k ≤ C.xs.length ∧ Fr (fun _ => False) h1 h' ∧ dD C.xs (C.xs.drop k) k st.1 = cY C.xs ∧ (st.1 = -1 ∨ ∃ b : Nat, st.1 = b ∧ b < C.xs.length)) (fun st _ => C.xs.length - st.2.toNat)
  ⟨0, rfl, by omega, Fr.refl _ _, rfl, .inl rfl⟩ ?_
 rintro ⟨best, i⟩ h2 ⟨k, hi, hkl, f2, hg, hb⟩
 simp only at hi hg hb
 subst hi
 unfold p9
 refine aC (ld _ f2) ?_
 refine ifD (fun hlt => ?_) (fun hge => ?_)
 ·have hks : k < C.xs.length := by omega
  have oc2 := bH.fr0 aI.ok_fr f2 oc
  rw [xk _ k hks] at hg
  have hpat := sh.pat _ (List.getElem_mem hks)
  refine aC (ld _ f2) ?_
  refine cL oc2 k rfl hks fun ad cc okc => ?_
  rw [Int.toNat_natCast]
  refine (aT (cc.at0 rfl) (aG (cc.at rfl) (aG (cc.at rfl) (aG (cc.at rfl) (aA (cc.at rfl) (aA (cc.at rfl) (aG (cc.at rfl) ?_)))))))
  refine oG rfl rfl fun t5 h3 f3 ht5 o5 => ?_
  have f13 := f2.trans f3
  have next : ∀ (b' : Int) (h' : aB), Fr (fun _ => False) h1 h' → dD C.xs (C.xs.drop (k + 1)) (k + 1) b' = cY C.xs → (b' = -1 ∨ ∃ b : Nat, b' = b ∧ b < C.xs.length) →
    (∃ k' : Nat, (b', IntKind.wrap .i64 ((k : Int) + 1)).2 = k' ∧ k' ≤ C.xs.length ∧ Fr (fun _ => False) h1 h' ∧ dD C.xs (C.xs.drop k') k' (b', IntKind.wrap .i64 ((k : Int) + 1)).1 = cY C.xs ∧ ((b', IntKind.wrap .i64 ((k : Int) + 1)).1 = -1 ∨ ∃ b : Nat, (b', IntKind.wrap .i64 ((k : Int) + 1)).1 = b ∧ b < C.xs.length)) ∧ C.xs.length - ((b', IntKind.wrap .i64 ((k : Int) + 1)).2).toNat < C.xs.length - k := by
   intro b' h' f' hg' hb'
   rw [wr (by omega) (by omega)]
   exact ⟨⟨k + 1, by simp, by omega, f', hg', hb'⟩, by simp only; omega⟩
  refine (aT (o5.cells.at0 rfl) (aG (o5.cells.at rfl) (aG (o5.cells.at rfl) (aG (o5.cells.at rfl) (aA (o5.cells.at rfl) (aA (o5.cells.at rfl) (aG (o5.cells.at rfl) ?_)))))))
  refine JF _ fun h4 f4 => ⟨_, rfl, ?_⟩
  have f14 := f13.trans f4
  have o5' := Own.fr0 f4 o5
  refine ifN (fun hn => ?_) (fun hn => ?_)
  ·rw [if_pos (by simpa using hn)] at hg
   exact next _ _ f14 hg hb
  rw [if_neg (by simpa using hn)] at hg
  refine aG (o5'.cells.at rfl) ?_
  refine ifB (fun hf => ?_) (fun hf => ?_)
  ·rw [if_pos hf] at hg
   have := hk _ (f1.trans f14)
   rw [← hg] at this; exact this
  rw [if_neg (by simp [hf])] at hg
  refine ifD (fun hneg => ?_) (fun hneg => ?_)
  ·rw [if_pos hneg] at hg
   exact next _ _ f14 hg (.inr ⟨k, rfl, hks⟩)
  rw [if_neg hneg] at hg
  obtain ⟨b, rfl, hbl⟩ : ∃ b : Nat, best = b ∧ b < C.xs.length := by
   rcases hb with hb | hb
   ·omega
   ·exact hb
  refine aC (ld _ f14) ?_
  have oc3 := bH.fr0 aI.ok_fr f14 oc
  have hbpat := sh.pat _ (List.getElem_mem hbl)
  refine cL oc3 b rfl hbl fun ad2 cb okb => ?_
  rw [Int.toNat_natCast]
  refine aT (cb.at0 rfl) (aT (o5'.cells.at0 rfl) ?_)
  refine xL _ (by omega) fun h5 f5 => ⟨_, rfl, ?_⟩
  refine xL _ (by omega) fun h6 f6 => ⟨_, rfl, ?_⟩
  have o6 := Own.fr0 f6 (Own.fr0 f5 o5')
  have f16 := (f14.trans f5).trans f6
  have hgd : C.xs.getD ((b : Int)).toNat noC = C.xs[b] := by
   rw [Int.toNat_natCast, List.getD_eq_getElem?_getD, List.getElem?_eq_getElem hbl]; rfl
  rw [hgd] at hg
  have win : rZ C.xs[k] C.xs[b] = true → dD C.xs (C.xs.drop (k + 1)) (k + 1) k = cY C.xs := fun hw => by rw [if_pos hw] at hg; exact hg
  have lose : rZ C.xs[k] C.xs[b] = false → dD C.xs (C.xs.drop (k + 1)) (k + 1) b = cY C.xs := fun hw => by rw [if_neg (by simp [hw])] at hg; exact hg
  refine ifD (fun hgt => ?_) (fun hgt => ?_)
  ·exact next _ _ f16 (win (by simp [rZ, hgt])) (.inr ⟨k, rfl, hks⟩)
  refine aT (o6.cells.at0 rfl) ?_
  refine xL _ (by omega) fun h7 f7 => ⟨_, rfl, ?_⟩
  refine xL _ (by omega) fun h8 f8 => ⟨_, rfl, ?_⟩
  have o8 := Own.fr0 f8 (Own.fr0 f7 o6)
  have f18 := (f16.trans f7).trans f8
  refine ifE (fun heq => ?_) (fun hne => ?_)
  ·refine aT (o8.cells.at0 rfl) ?_
   rw [aX, aX]
   refine ifD (fun hl => ?_) (fun hl => ?_)
   ·exact next _ _ f18 (win (by unfold rZ; rw [heq]; simp; omega)) (.inr ⟨k, rfl, hks⟩)
   ·exact next _ _ f18 (lose (by unfold rZ; rw [heq]; simp; omega)) (.inr ⟨b, rfl, hbl⟩)
  ·exact next _ _ f18 (lose (by unfold rZ; simp [hne]; omega)) (.inr ⟨b, rfl, hbl⟩)
 ·have : k = C.xs.length := by omega
  subst this
  rw [List.drop_length] at hg
  have := hk _ (f1.trans f2)
  rw [← hg] at this; exact this
theorem Ei : gU Tryz.prog aL gK Tryz.t5 (.int .u8 0) := ⟨Tryz.underlying98, by kernel_rfl, by kernel_rfl, by kernel_rfl, by decide⟩
theorem GM [Gh] (s : List UInt8) (hs : s.length < 2 ^ 40) {h : aB} {Q : Value → aB → Prop} (hk : ∀ h', Fr (fun _ => False) h h' → Q (.string (bs s)) h') :
  aD Tryz.prog l7 #[.string (bs s)] h Q := by
 apply Af
 unfold uJ
 have inner : aD Tryz.prog gP #[.string (bs s)] h (fun v h' => v = .string (bs s) ∧ Fr (fun _ => False) h h') := by
  apply p7
  unfold kE
  rw [aX]
  refine ifE (fun h0 => ?_) (fun h0 => ?_)
  ·have : s = [] := List.length_eq_zero_iff.1 (by omega)
   subst this; exact ⟨rfl, Fr.refl _ _⟩
  have eb : (Tryz.t5).bytes = 1 := by kernel_rfl
  refine xM Ei s.length rfl (by rw [eb]; omega) fun a h1 f1 ha o1 => ⟨_, _, _, rfl, ?_⟩
  refine JD Tryz.underlying98 (by kernel_rfl) (by kernel_rfl) o1 s (by show (List.replicate s.length [Value.int .u8 0]).flatten.length = _; simp) fun h2 f2 o2 => ⟨_, rfl, ?_⟩
  have f02 : Fr (fun _ => False) h h2 := f1.tr f2 (fun x hx e => by subst e; rw [ha] at hx; exact absurd hx (Nat.lt_irrefl _))
  refine bQ 0 rfl (by omega) (aV ?_)
  refine DV Tryz.underlying248 (by kernel_rfl) o2 (by omega) fun h3 f3 => ⟨_, rfl, rfl, ?_⟩
  exact f02.tr f3 (fun x hx e => by subst e; rw [ha] at hx; exact absurd hx (Nat.lt_irrefl _))
 refine inner.mono ?_
 rintro v h' ⟨rfl, f⟩
 exact ⟨_, rfl, hk _ f⟩
def vg (cs : List Cn) : Option (List UInt8 × Bool) :=
 if cY cs < 0 then none else
  let c := cs.getD (cY cs).toNat noC
  some (if c.Nocase then c.Pattern.map fK else c.Pattern, c.Nocase)
def Ip (cs : List Cn) : Value := match vg cs with
 | none => .tuple #[.agg #[.string (bs []), .bool false], .bool false]
 | some (t, n) => .tuple #[.agg #[.string (bs t), .bool n], .bool true]
theorem vL (all : List Cn) : ∀ (l : List Cn) (k : Nat) (best : Int), k + l.length = all.length → best < all.length → dD all l k best < all.length
 | [], _, _, _, hb => hb
 | c :: r, k, best, hl, hb => by
  simp only [List.length_cons] at hl
  unfold dD
  have i1 := vL all r (k + 1) best (by omega) hb
  have i2 := vL all r (k + 1) k (by omega) (by omega)
  split
  ·exact i1
  split
  ·omega
  split
  ·exact i2
  split <;> assumption
theorem re (all : List Cn) : cY all < all.length := vL all all 0 (-1) (by simp) (by omega)
end Go.Proofs.YtjmfpeiidlpngaaGreatDoor.Fp
