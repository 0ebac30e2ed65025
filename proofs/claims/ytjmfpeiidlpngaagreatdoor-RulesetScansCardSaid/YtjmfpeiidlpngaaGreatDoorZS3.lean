/-
  Part 3 of 6 of the proofs: the texts of wip/ in one file, without what this claim does not use.
-/
import Derived.Test.YtjmfpeiidlpngaaGreatDoorZS2
namespace Go.Proofs.YtjmfpeiidlpngaaGreatDoor
set_option linter.unusedSimpArgs false
set_option linter.unusedVariables false
set_option maxRecDepth 20000
open Go IntKind
variable [Gh]
def kY (u : ByteArray) (w : Int) (b : Option Addr) (c x : Nat) (d : Option Addr) (f g : Nat) (a : Int) (Q : QT) (Kn3 : (Option Addr) × Nat × Nat × Int → aB → Prop) (h : aB) : Prop :=
 bM a c (nn b fun l => ldS h (l.add (a.toNat * 1)) fun m => if (!(m.toList == (⟨#[]⟩ : ByteArray).toList)) = true then (bM a c (nn b fun n => ldS h (n.add (a.toNat * 1)) fun o => if (!(o.toList == (⟨#[46]⟩ : ByteArray).toList)) = true then (bM a c (nn b fun p => ldS h (p.add (a.toNat * 1)) fun q => if (!(q.toList == (⟨#[46, 46]⟩ : ByteArray).toList)) = true then (bM a c (nn b fun r => ldS h (r.add (a.toNat * 1)) fun s => alV h (.cells #[.string s] bZ) fun t h3 => cQ Tryz.prog .append #[eZ, eZ] eZ #[false, false] #[.slice d f g, .slice (some t) 1 1] h3 fun v h4 => ∃ i j k, v = .slice i j k ∧ Kn3 (i, j, k, wrap .i64 (a + 1)) h4)) else (Kn3 (d, f, g, wrap .i64 (a + 1)) h))) else (Kn3 (d, f, g, wrap .i64 (a + 1)) h))) else (Kn3 (d, f, g, wrap .i64 (a + 1)) h))
def kZ (i : ByteArray) (j : Int) (k : Option Addr) (l m : Nat) (d : Option Addr) (f n : Nat) (b : ByteArray) (a : Int) (Q : QT) (Kn6 : ByteArray × Int → aB → Prop) (h : aB) : Prop :=
 bM a f (nn d fun g => ldS h (g.add (a.toNat * 1)) fun c => ((b.size + c.size : Nat) : Int) ≤ IntKind.max .i64 ∧ Kn6 (b ++ c, wrap .i64 (a + 1)) h)
def gR (c : ByteArray) (d : Int) (a : ByteArray) (Q : QT) (h : aB) : Prop :=
 mV c (some d) none fun b => ((a.size + b.size : Nat) : Int) ≤ IntKind.max .i64 ∧ Q (.string (a ++ b)) h
def tG (b : ByteArray) (c : Int) (g : Option Addr) (d j : Nat) (a : ByteArray) (Q : QT) (h : aB) : Prop :=
 bM (wrap .i64 (((d : Nat) : Int) - 1)) d (nn g fun i => ldS h (i.add (((wrap .i64 (((d : Nat) : Int) - 1))).toNat * 1)) fun f => if (a.toList == (⟨#[]⟩ : ByteArray).toList) = true then (((a.size + (⟨#[47]⟩ : ByteArray).size : Nat) : Int) ≤ IntKind.max .i64 ∧ gR b c (a ++ (⟨#[47]⟩ : ByteArray)) Q h) else (if (f.toList == (⟨#[]⟩ : ByteArray).toList) = true then (((a.size + (⟨#[47]⟩ : ByteArray).size : Nat) : Int) ≤ IntKind.max .i64 ∧ gR b c (a ++ (⟨#[47]⟩ : ByteArray)) Q h) else (if (f.toList == (⟨#[46]⟩ : ByteArray).toList) = true then (((a.size + (⟨#[47]⟩ : ByteArray).size : Nat) : Int) ≤ IntKind.max .i64 ∧ gR b c (a ++ (⟨#[47]⟩ : ByteArray)) Q h) else (if (f.toList == (⟨#[46, 46]⟩ : ByteArray).toList) = true then (((a.size + (⟨#[47]⟩ : ByteArray).size : Nat) : Int) ≤ IntKind.max .i64 ∧ gR b c (a ++ (⟨#[47]⟩ : ByteArray)) Q h) else (gR b c a Q h)))))
def tH (b : ByteArray) (d : Int) (f : Option Addr) (g i : Nat) (k : Option Addr) (j l : Nat) (Q : QT) (a : ByteArray) (c : Int) (h : aB) (Kn6 : ByteArray × Int → aB → Prop) : Prop :=
 if (decide (c < ((j : Nat) : Int))) = true then (if (decide (c > 0)) = true then (((a.size + (⟨#[47]⟩ : ByteArray).size : Nat) : Int) ≤ IntKind.max .i64 ∧ kZ b d f g i k j l (a ++ (⟨#[47]⟩ : ByteArray)) c Q Kn6 h) else (jD b (0 : Int) fun m => if (m == 47) = true then (((a.size + (⟨#[47]⟩ : ByteArray).size : Nat) : Int) ≤ IntKind.max .i64 ∧ kZ b d f g i k j l (a ++ (⟨#[47]⟩ : ByteArray)) c Q Kn6 h) else (kZ b d f g i k j l a c Q Kn6 h))) else (tG b d f g i a Q h)
def tC (a : ByteArray) (b : Int) (c : Option Addr) (d f : Nat) (g : Option Addr) (i j : Nat) (Q : QT) (h : aB) : Prop :=
 aH (fun (s : ByteArray × Int) h Kn => tH a b c d f g i j Q s.1 s.2 h Kn) ((⟨#[]⟩ : ByteArray), 0) h
def tL (f : ByteArray) (g : Int) (d : Option Addr) (a i : Nat) (Q : QT) (j : Option Addr) (b k : Nat) (c : Int) (h : aB) (Kn3 : (Option Addr) × Nat × Nat × Int → aB → Prop) : Prop :=
 if (decide (c < ((a : Nat) : Int))) = true then (bM c a (nn d fun l => ldS h (l.add (c.toNat * 1)) fun m => if (m.toList == (⟨#[46, 46]⟩ : ByteArray).toList) = true then (if (decide (((b : Nat) : Int) > 0)) = true then (fV 1 j b k none (some (wrap .i64 (((b : Nat) : Int) - 1))) none fun n o p => kY f g d a i n o p c Q Kn3 h) else (kY f g d a i j b k c Q Kn3 h)) else (kY f g d a i j b k c Q Kn3 h))) else (tC f g d a i j b k Q h)
def tE (a : ByteArray) (b : Int) (Q : QT) (h : aB) : Prop :=
 mV a none (some b) fun g => aD Tryz.prog pb #[.string g] h fun v h1 => ∃ c d f, v = .slice c d f ∧ alV h1 (.cells #[] bZ) fun i h2 => aH (fun (s : (Option Addr) × Nat × Nat × Int) h Kn => tL a b c d f Q s.1 s.2.1 s.2.2.1 s.2.2.2 h Kn) (some i, 0, 0, 0) h2
def tQ (b : ByteArray) (Q : QT) (c a : Int) (h : aB) (Kn1 : Int × Int → aB → Prop) : Prop :=
 if (decide (a ≥ 0)) = true then (jD b a fun d => if (d == 63) = true then (Kn1 (a, wrap .i64 (a - 1)) h) else (Kn1 (c, wrap .i64 (a - 1)) h)) else (tE b c Q h)
def zY (a : ByteArray) (Q : QT) (h : aB) : Prop :=
 aH (fun (s : Int × Int) h Kn => tQ a Q s.1 s.2 h Kn) (((a.size : Nat) : Int), wrap .i64 (((a.size : Nat) : Int) - 1)) h
set_option maxRecDepth 100000 in
theorem EP (b : _) {Q : QT} {h : aB} (hk : zY b Q h) : aD Tryz.prog tD #[.string b] h Q :=
 aW follows Tryz.func117 (Tryz.call117 _) rfl rfl [(16, fun e h => dS (e 0) fun b => dI .i64 (e 3) fun a => tE b a Q h), (34, fun e h => dS (e 0) fun b => dI .i64 (e 3) fun a => dL (e 5) fun g i j => dL (e 6) fun c d f => tC b a g i j c d f Q h), (48, fun e h => dS (e 0) fun b => dI .i64 (e 3) fun a => dL (e 5) fun g i j => dS (e 8) fun k => tG b a g i j k Q h), (54, fun e h => dS (e 0) fun b => dI .i64 (e 3) fun a => dS (e 8) fun k => gR b a k Q h)] [(8, fun e h => dS (e 0) fun b => dI .i64 (e 3) fun a => dI .i64 (e 4) fun n => aH (fun (s : Int × Int) h Kn => tQ b Q s.1 s.2 h Kn) (a, n) h), (22, fun e h => dS (e 0) fun b => dI .i64 (e 3) fun a => dL (e 5) fun g i j => dL (e 6) fun c d f => dI .i64 (e 7) fun l => aH (fun (s : (Option Addr) × Nat × Nat × Int) h Kn => tL b a g i j Q s.1 s.2.1 s.2.2.1 s.2.2.2 h Kn) (c, d, f, l) h), (38, fun e h => dS (e 0) fun b => dI .i64 (e 3) fun a => dL (e 5) fun g i j => dL (e 6) fun c d f => dS (e 8) fun k => dI .i64 (e 9) fun m => aH (fun (s : ByteArray × Int) h Kn => tH b a g i j c d f Q s.1 s.2 h Kn) (k, m) h)]
 ⟨fun e h _ hk => by
 have F := Ag.nil (e := e)
 have ⟨b, F, hk⟩ := eS F hk
 have ⟨a, F, hk⟩ := eI F hk
 exact fG F (by as_aux_lemma => kernel_rfl) hk, fun e h _ hk => by
 have F := Ag.nil (e := e)
 have ⟨b, F, hk⟩ := eS F hk
 have ⟨a, F, hk⟩ := eI F hk
 have ⟨g, i, j, F, hk⟩ := eL F hk
 have ⟨c, d, f, F, hk⟩ := eL F hk
 exact fG F (by as_aux_lemma => kernel_rfl) hk, fun e h _ hk => by
 have F := Ag.nil (e := e)
 have ⟨b, F, hk⟩ := eS F hk
 have ⟨a, F, hk⟩ := eI F hk
 have ⟨g, i, j, F, hk⟩ := eL F hk
 have ⟨k, F, hk⟩ := eS F hk
 exact fG F (by as_aux_lemma => kernel_rfl) hk, fun e h _ hk => by
 have F := Ag.nil (e := e)
 have ⟨b, F, hk⟩ := eS F hk
 have ⟨a, F, hk⟩ := eI F hk
 have ⟨k, F, hk⟩ := eS F hk
 exact fG F (by as_aux_lemma => kernel_rfl) hk, trivial⟩
 ⟨⟨by kernel_rfl, fun e h he hk => by
 have F := Ag.nil (e := e)
 have ⟨b, F, hk⟩ := eS F hk
 have ⟨a, F, hk⟩ := eI F hk
 have ⟨n, F, hk⟩ := eI F hk
 exact bU (s0 := (a, n)) follows (fun _ h => by cases h) he F (fun s => [(4, .int .i64 s.2), (3, .int .i64 s.1)]) (by kernel_rfl) (F.take 2) hk (fun Kn1 e h => dI .i64 (e 3) fun a => dI .i64 (e 4) fun n => Kn1 (a, n) h) (fun Kn1 e h hk => by
  have F := Ag.nil (e := e)
  have ⟨a, F, hk⟩ := eI F hk
  have ⟨n, F, hk⟩ := eI F hk
  exact ⟨(a, n), F, hk⟩)
  (fun Kn1 => []) (fun Kn1 => [])
  (fun Kn1 => trivial)
  (fun Kn1 => trivial) (fun e s h Kn1 => by as_aux_lemma => kernel_rfl)⟩, ⟨by kernel_rfl, fun e h he hk => by
 have F := Ag.nil (e := e)
 have ⟨b, F, hk⟩ := eS F hk
 have ⟨a, F, hk⟩ := eI F hk
 have ⟨g, i, j, F, hk⟩ := eL F hk
 have ⟨c, d, f, F, hk⟩ := eL F hk
 have ⟨l, F, hk⟩ := eI F hk
 exact bU (s0 := (c, d, f, l)) follows (fun _ h => by cases h) he F (fun s => [(7, .int .i64 s.2.2.2), (6, .slice s.1 s.2.1 s.2.2.1)]) (by kernel_rfl) (F.take 2) hk (fun Kn3 e h => dL (e 6) fun c d f => dI .i64 (e 7) fun l => Kn3 (c, d, f, l) h) (fun Kn3 e h hk => by
  have F := Ag.nil (e := e)
  have ⟨c, d, f, F, hk⟩ := eL F hk
  have ⟨l, F, hk⟩ := eI F hk
  exact ⟨(c, d, f, l), F, hk⟩)
  (fun Kn3 => [(30, fun e h => dS (e 0) fun b => dI .i64 (e 3) fun a => dL (e 5) fun g i j => dL (e 6) fun c d f => dI .i64 (e 7) fun l => kY b a g i j c d f l Q Kn3 h)]) (fun Kn3 => [])
  (fun Kn3 => ⟨fun e h _ hk => by
 have F := Ag.nil (e := e)
 have ⟨b, F, hk⟩ := eS F hk
 have ⟨a, F, hk⟩ := eI F hk
 have ⟨g, i, j, F, hk⟩ := eL F hk
 have ⟨c, d, f, F, hk⟩ := eL F hk
 have ⟨l, F, hk⟩ := eI F hk
 exact fG F (by as_aux_lemma => kernel_rfl) hk, trivial⟩)
  (fun Kn3 => trivial) (fun e s h Kn3 => by as_aux_lemma => kernel_rfl)⟩, ⟨by kernel_rfl, fun e h he hk => by
 have F := Ag.nil (e := e)
 have ⟨b, F, hk⟩ := eS F hk
 have ⟨a, F, hk⟩ := eI F hk
 have ⟨g, i, j, F, hk⟩ := eL F hk
 have ⟨c, d, f, F, hk⟩ := eL F hk
 have ⟨k, F, hk⟩ := eS F hk
 have ⟨m, F, hk⟩ := eI F hk
 exact bU (s0 := (k, m)) follows (fun _ h => by cases h) he F (fun s => [(9, .int .i64 s.2), (8, .string s.1)]) (by kernel_rfl) (F.take 2) hk (fun Kn6 e h => dS (e 8) fun k => dI .i64 (e 9) fun m => Kn6 (k, m) h) (fun Kn6 e h hk => by
  have F := Ag.nil (e := e)
  have ⟨k, F, hk⟩ := eS F hk
  have ⟨m, F, hk⟩ := eI F hk
  exact ⟨(k, m), F, hk⟩)
  (fun Kn6 => [(46, fun e h => dS (e 0) fun b => dI .i64 (e 3) fun a => dL (e 5) fun g i j => dL (e 6) fun c d f => dS (e 8) fun k => dI .i64 (e 9) fun m => kZ b a g i j c d f k m Q Kn6 h)]) (fun Kn6 => [])
  (fun Kn6 => ⟨fun e h _ hk => by
 have F := Ag.nil (e := e)
 have ⟨b, F, hk⟩ := eS F hk
 have ⟨a, F, hk⟩ := eI F hk
 have ⟨g, i, j, F, hk⟩ := eL F hk
 have ⟨c, d, f, F, hk⟩ := eL F hk
 have ⟨k, F, hk⟩ := eS F hk
 have ⟨m, F, hk⟩ := eI F hk
 exact fG F (by as_aux_lemma => kernel_rfl) hk, trivial⟩)
  (fun Kn6 => trivial) (fun e s h Kn6 => by as_aux_lemma => kernel_rfl)⟩, trivial⟩ (by as_aux_lemma => kernel_rfl) hk
def u9 (i : ByteArray) (Q : QT) (b : Option Addr) (c d : Nat) (g a : Int) (h : aB) (Kn1 : (Option Addr) × Nat × Nat × Int × Int → aB → Prop) : Prop :=
 if (decide (a < ((i.size : Nat) : Int))) = true then (jD i a fun n => aD Tryz.prog iZ #[.int .u8 n] h fun v h2 => ∃ f, v = .int .i64 f ∧ if (decide (f < 0)) = true then (Kn1 (b, c, d, g, wrap .i64 (a + 1)) h2) else (if (decide (g < 0)) = true then (Kn1 (b, c, d, f, wrap .i64 (a + 1)) h2) else (alV h2 (.cells #[.int .u8 (wrap .u8 (wrap .i64 ((wrap .i64 (g * 16)) + f)))] gP) fun o h3 => cQ Tryz.prog .append #[aM, aM] aM #[false, false] #[.slice b c d, .slice (some o) 1 1] h3 fun v h4 => ∃ j k l, v = .slice j k l ∧ Kn1 (j, k, l, (-1), wrap .i64 (a + 1)) h4))) else (kN Tryz.prog aM bZ (.slice b c d) h fun v h5 => ∃ m, v = .string m ∧ Q (.string m) h5)
def AL (a : ByteArray) (Q : QT) (h : aB) : Prop :=
 alV h (.cells #[] gP) fun b h1 => aH (fun (s : (Option Addr) × Nat × Nat × Int × Int) h Kn => u9 a Q s.1 s.2.1 s.2.2.1 s.2.2.2.1 s.2.2.2.2 h Kn) (some b, 0, 0, (-1), 0) h1
set_option maxRecDepth 100000 in
theorem GC (g : _) {Q : QT} {h : aB} (hk : AL g Q h) : aD Tryz.prog vh #[.string g] h Q :=
 aW follows Tryz.func118 (Tryz.call118 _) rfl rfl [] [(10, fun e h => dS (e 0) fun g => dL (e 3) fun a b c => dI .i64 (e 4) fun d => dI .i64 (e 5) fun f => aH (fun (s : (Option Addr) × Nat × Nat × Int × Int) h Kn => u9 g Q s.1 s.2.1 s.2.2.1 s.2.2.2.1 s.2.2.2.2 h Kn) (a, b, c, d, f) h)]
 trivial
 ⟨⟨by kernel_rfl, fun e h he hk => by
 have F := Ag.nil (e := e)
 have ⟨g, F, hk⟩ := eS F hk
 have ⟨a, b, c, F, hk⟩ := eL F hk
 have ⟨d, F, hk⟩ := eI F hk
 have ⟨f, F, hk⟩ := eI F hk
 exact bU (s0 := (a, b, c, d, f)) follows (fun _ h => by cases h) he F (fun s => [(5, .int .i64 s.2.2.2.2), (4, .int .i64 s.2.2.2.1), (3, .slice s.1 s.2.1 s.2.2.1)]) (by kernel_rfl) (F.take 3) hk (fun Kn1 e h => dL (e 3) fun a b c => dI .i64 (e 4) fun d => dI .i64 (e 5) fun f => Kn1 (a, b, c, d, f) h) (fun Kn1 e h hk => by
  have F := Ag.nil (e := e)
  have ⟨a, b, c, F, hk⟩ := eL F hk
  have ⟨d, F, hk⟩ := eI F hk
  have ⟨f, F, hk⟩ := eI F hk
  exact ⟨(a, b, c, d, f), F, hk⟩)
  (fun Kn1 => []) (fun Kn1 => [])
  (fun Kn1 => trivial)
  (fun Kn1 => trivial) (fun e s h Kn1 => by as_aux_lemma => kernel_rfl)⟩, trivial⟩ (by as_aux_lemma => kernel_rfl) hk
def vK (b : Bool) (c d : Int) (Q : QT) (h : aB) : Prop :=
 alV h (.cells #[.bool b, .int .u64 c, .int .u64 d] cN) fun a h1 => ldB h1 a fun f => if f = true then (Q (.bool true) h1) else (ldI h1 (a.add 1) .u64 fun g => if (g == 0) = true then (ldI h1 (a.add 2) .u64 fun i => Q (.bool (decide (i ≤ 4294967295))) h1) else (Q (.bool false) h1))
set_option maxRecDepth 100000 in
theorem Bt (a b c : _) {Q : QT} {h : aB} (hk : vK a b c Q h) : aD Tryz.prog jT #[.agg #[.bool a, .int .u64 b, .int .u64 c]] h Q :=
 aW follows Tryz.func119 (Tryz.call119 _) rfl rfl [] []
 trivial
 trivial (by as_aux_lemma => kernel_rfl) hk
def fQ (b : Option Addr) (c d : Nat) (f : Value) (Q : QT) (h : aB) : Prop :=
 aD Tryz.prog gN #[.slice b c d, f] h fun v h1 => ∃ a, v = .int .i64 a ∧ Q (.bool (decide (a ≥ 0))) h1
set_option maxRecDepth 100000 in
theorem kQ (a b c d : _) {Q : QT} {h : aB} (hk : fQ a b c d Q h) : aD Tryz.prog cX #[.slice a b c, d] h Q :=
 aW follows Tryz.func120 (Tryz.call120 _) rfl rfl [] []
 trivial
 trivial (by as_aux_lemma => kernel_rfl) hk
def qu (g : Bool) (i j : Int) (k : Bool) (l m : Int) (b : Addr) (Q : QT) (h : aB) : Prop :=
 alV h (.cells #[.bool g, .int .u64 i, .int .u64 j, .bool k, .int .u64 l, .int .u64 m] lN) fun a h1 => ldB h1 a fun n => ldI h1 (a.add 1) .u64 fun o => ldI h1 (a.add 2) .u64 fun p => ldB h1 (a.add 3) fun q => ldI h1 (a.add 4) .u64 fun r => ldI h1 (a.add 5) .u64 fun s => aD Tryz.prog qM #[.agg #[.bool n, .int .u64 o, .int .u64 p, .bool q, .int .u64 r, .int .u64 s]] h1 fun v h2 => ∃ c, v = .bool c ∧ if c = true then (ldB h2 a fun t => ldB h2 b fun u => if (t == u) = true then (ldB h2 a fun w => ldI h2 (a.add 1) .u64 fun x => ldI h2 (a.add 2) .u64 fun y => ldB h2 b fun z => ldI h2 (b.add 1) .u64 fun A => ldI h2 (b.add 2) .u64 fun B => aD Tryz.prog iQ #[.agg #[.bool w, .int .u64 x, .int .u64 y], .agg #[.bool z, .int .u64 A, .int .u64 B]] h2 fun v h3 => ∃ d, v = .int .i64 d ∧ if (decide (d ≤ 0)) = true then (ldB h3 b fun C => ldI h3 (b.add 1) .u64 fun D => ldI h3 (b.add 2) .u64 fun G => ldB h3 (a.add 3) fun I => ldI h3 (a.add 4) .u64 fun J => ldI h3 (a.add 5) .u64 fun L => aD Tryz.prog iQ #[.agg #[.bool C, .int .u64 D, .int .u64 G], .agg #[.bool I, .int .u64 J, .int .u64 L]] h3 fun v h4 => ∃ f, v = .int .i64 f ∧ Q (.bool (decide (f ≤ 0))) h4) else (Q (.bool false) h3)) else (Q (.bool false) h2)) else (Q (.bool false) h2)
set_option maxRecDepth 100000 in
theorem wx (a b c d f g i : _) {Q : QT} {h : aB} (hk : qu a b c d f g i Q h) : aD Tryz.prog pK #[.agg #[.bool a, .int .u64 b, .int .u64 c, .bool d, .int .u64 f, .int .u64 g], .pointer (some i)] h Q :=
 aW follows Tryz.func121 (Tryz.call121 _) rfl rfl [] []
 trivial
 trivial (by as_aux_lemma => kernel_rfl) hk
def wK (f : Bool) (g i : Int) (j : Bool) (k l : Int) (Q : QT) (h : aB) : Prop :=
 alV h (.cells #[.bool f, .int .u64 g, .int .u64 i, .bool j, .int .u64 k, .int .u64 l] lN) fun a h1 => ldB h1 a fun m => ldI h1 (a.add 1) .u64 fun n => ldI h1 (a.add 2) .u64 fun o => aD Tryz.prog jT #[.agg #[.bool m, .int .u64 n, .int .u64 o]] h1 fun v h2 => ∃ b, v = .bool b ∧ if b = true then (ldB h2 (a.add 3) fun p => ldI h2 (a.add 4) .u64 fun q => ldI h2 (a.add 5) .u64 fun r => aD Tryz.prog jT #[.agg #[.bool p, .int .u64 q, .int .u64 r]] h2 fun v h3 => ∃ c, v = .bool c ∧ if c = true then (ldB h3 a fun s => ldB h3 (a.add 3) fun t => if (s == t) = true then (ldB h3 a fun u => ldI h3 (a.add 1) .u64 fun w => ldI h3 (a.add 2) .u64 fun x => ldB h3 (a.add 3) fun y => ldI h3 (a.add 4) .u64 fun z => ldI h3 (a.add 5) .u64 fun A => aD Tryz.prog iQ #[.agg #[.bool u, .int .u64 w, .int .u64 x], .agg #[.bool y, .int .u64 z, .int .u64 A]] h3 fun v h4 => ∃ d, v = .int .i64 d ∧ Q (.bool (decide (d ≤ 0))) h4) else (Q (.bool false) h3)) else (Q (.bool false) h3)) else (Q (.bool false) h2)
set_option maxRecDepth 100000 in
theorem BZ (a b c d f g : _) {Q : QT} {h : aB} (hk : wK a b c d f g Q h) : aD Tryz.prog qM #[.agg #[.bool a, .int .u64 b, .int .u64 c, .bool d, .int .u64 f, .int .u64 g]] h Q :=
 aW follows Tryz.func122 (Tryz.call122 _) rfl rfl [] []
 trivial
 trivial (by as_aux_lemma => kernel_rfl) hk
def sR (c : Bool) (d f : Int) (g : Bool) (i j : Int) (Q : QT) (h : aB) : Prop :=
 alV h (.cells #[.bool c, .int .u64 d, .int .u64 f] cN) fun b h1 => alV h1 (.cells #[.bool g, .int .u64 i, .int .u64 j] cN) fun a h2 => ldB h2 b fun k => ldI h2 (b.add 1) .u64 fun l => ldI h2 (b.add 2) .u64 fun m => ldB h2 a fun n => ldI h2 (a.add 1) .u64 fun o => ldI h2 (a.add 2) .u64 fun p => if ((k == n) && ((l == o) && ((m == p) && true))) = true then (Q (.int .i64 0) h2) else (ldB h2 b fun q => ldB h2 a fun r => if (!(q == r)) = true then (ldB h2 a fun s => if s = true then (Q (.int .i64 (-1)) h2) else (Q (.int .i64 1) h2)) else (ldI h2 (b.add 1) .u64 fun t => ldI h2 (a.add 1) .u64 fun u => if (t != u) = true then (ldI h2 (b.add 1) .u64 fun w => ldI h2 (a.add 1) .u64 fun x => if (decide (w < x)) = true then (Q (.int .i64 (-1)) h2) else (Q (.int .i64 1) h2)) else (ldI h2 (b.add 2) .u64 fun y => ldI h2 (a.add 2) .u64 fun z => if (decide (y < z)) = true then (Q (.int .i64 (-1)) h2) else (Q (.int .i64 1) h2))))
set_option maxRecDepth 100000 in
theorem zQ (a b c d f g : _) {Q : QT} {h : aB} (hk : sR a b c d f g Q h) : aD Tryz.prog iQ #[.agg #[.bool a, .int .u64 b, .int .u64 c], .agg #[.bool d, .int .u64 f, .int .u64 g]] h Q :=
 aW follows Tryz.func123 (Tryz.call123 _) rfl rfl [] []
 trivial
 trivial (by as_aux_lemma => kernel_rfl) hk
def gM (b : Option Addr) (c d : Nat) (f : Value) (Q : QT) (h : aB) : Prop :=
 aD Tryz.prog hZ #[.slice b c d, f] h fun v h1 => ∃ a, v = .int .i64 a ∧ Q (.bool (decide (a ≥ 0))) h1
set_option maxRecDepth 100000 in
theorem lJ (a b c d : _) {Q : QT} {h : aB} (hk : gM a b c d Q h) : aD Tryz.prog cZ #[.slice a b c, d] h Q :=
 aW follows Tryz.func124 (Tryz.call124 _) rfl rfl [] []
 trivial
 trivial (by as_aux_lemma => kernel_rfl) hk
def pF (c d : Int) (a : Addr) (Q : QT) (h : aB) : Prop :=
 alV h (.cells #[.int .i64 c, .int .i64 d] rI) fun b h1 => ldI h1 b .i64 fun f => ldI h1 a .i64 fun g => if (decide (f ≤ g)) = true then (ldI h1 a .i64 fun i => ldI h1 (b.add 1) .i64 fun j => Q (.bool (decide (i ≤ j))) h1) else (Q (.bool false) h1)
set_option maxRecDepth 100000 in
theorem vT (a b c : _) {Q : QT} {h : aB} (hk : pF a b c Q h) : aD Tryz.prog oo #[.agg #[.int .i64 a, .int .i64 b], .pointer (some c)] h Q :=
 aW follows Tryz.func125 (Tryz.call125 _) rfl rfl [] []
 trivial
 trivial (by as_aux_lemma => kernel_rfl) hk
def oj (f : Option Addr) (d R : Nat) (b : Addr) (Q : QT) (a : Int) (h : aB) (Kn1 : Int → aB → Prop) : Prop :=
 if (decide (a < ((d : Nat) : Int))) = true then (ldB h b fun n => ldI h (b.add 1) .u64 fun o => ldI h (b.add 2) .u64 fun p => aD Tryz.prog mK #[.agg #[.bool n, .int .u64 o, .int .u64 p]] h fun v h2 => ∃ j, v = .bool j ∧ if j = true then (bM a d (nn f fun c => ldB h2 (c.add (a.toNat * 6)) fun q => ldI h2 ((c.add (a.toNat * 6)).add 1) .u64 fun r => ldI h2 ((c.add (a.toNat * 6)).add 2) .u64 fun s => ldB h2 ((c.add (a.toNat * 6)).add 3) fun t => ldI h2 ((c.add (a.toNat * 6)).add 4) .u64 fun u => ldI h2 ((c.add (a.toNat * 6)).add 5) .u64 fun w => aD Tryz.prog tv #[.agg #[.bool q, .int .u64 r, .int .u64 s, .bool t, .int .u64 u, .int .u64 w]] h2 fun v h3 => ∃ k, v = .bool k ∧ if k = true then (bM a d (nn f fun x => ldB h3 (x.add (a.toNat * 6)) fun y => ldB h3 b fun z => if (y == z) = true then (ldB h3 b fun A => ldI h3 (b.add 1) .u64 fun B => ldI h3 (b.add 2) .u64 fun C => bM a d (nn f fun g => ldB h3 (g.add (a.toNat * 6)) fun D => ldI h3 ((g.add (a.toNat * 6)).add 1) .u64 fun G => ldI h3 ((g.add (a.toNat * 6)).add 2) .u64 fun I => aD Tryz.prog kM #[.agg #[.bool A, .int .u64 B, .int .u64 C], .agg #[.bool D, .int .u64 G, .int .u64 I]] h3 fun v h4 => ∃ l, v = .bool l ∧ if (!l) = true then (bM a d (nn f fun i => ldB h4 ((i.add (a.toNat * 6)).add 3) fun J => ldI h4 ((i.add (a.toNat * 6)).add 4) .u64 fun L => ldI h4 ((i.add (a.toNat * 6)).add 5) .u64 fun M => ldB h4 b fun N => ldI h4 (b.add 1) .u64 fun O => ldI h4 (b.add 2) .u64 fun P => aD Tryz.prog kM #[.agg #[.bool J, .int .u64 L, .int .u64 M], .agg #[.bool N, .int .u64 O, .int .u64 P]] h4 fun v h5 => ∃ m, v = .bool m ∧ if (!m) = true then (Q (.bool true) h5) else (Kn1 (wrap .i64 (a + 1)) h5))) else (Kn1 (wrap .i64 (a + 1)) h4))) else (Kn1 (wrap .i64 (a + 1)) h3))) else (Kn1 (wrap .i64 (a + 1)) h3))) else (Kn1 (wrap .i64 (a + 1)) h2)) else (Q (.bool false) h)
def uk (a : Option Addr) (b c : Nat) (d : Bool) (f g : Int) (Q : QT) (h : aB) : Prop :=
 alV h (.cells #[.bool d, .int .u64 f, .int .u64 g] cN) fun i h1 => aH (fun (s : Int) h Kn => oj a b c i Q s h Kn) 0 h1
set_option maxRecDepth 100000 in
theorem AA (b c d f g i : _) {Q : QT} {h : aB} (hk : uk b c d f g i Q h) : aD Tryz.prog lD #[.slice b c d, .agg #[.bool f, .int .u64 g, .int .u64 i]] h Q :=
 aW follows Tryz.func137 (Tryz.call137 _) rfl rfl [] [(6, fun e h => dL (e 0) fun b c d => dA (e 3) fun j => dI .i64 (e 5) fun a => aH (fun (s : Int) h Kn => oj b c d j Q s h Kn) a h)]
 trivial
 ⟨⟨by kernel_rfl, fun e h he hk => by
 have F := Ag.nil (e := e)
 have ⟨b, c, d, F, hk⟩ := eL F hk
 have ⟨j, F, hk⟩ := eA F hk
 have ⟨a, F, hk⟩ := eI F hk
 exact bU (s0 := a) follows (fun _ h => by cases h) he F (fun s => [(5, .int .i64 s)]) (by kernel_rfl) (F.take 1) hk (fun Kn1 e h => dI .i64 (e 5) fun a => Kn1 a h) (fun Kn1 e h hk => by
  have F := Ag.nil (e := e)
  have ⟨a, F, hk⟩ := eI F hk
  exact ⟨a, F, hk⟩)
  (fun Kn1 => []) (fun Kn1 => [])
  (fun Kn1 => trivial)
  (fun Kn1 => trivial) (fun e s h Kn1 => by as_aux_lemma => kernel_rfl)⟩, trivial⟩ (by as_aux_lemma => kernel_rfl) hk
def oY (c : Option Addr) (b k : Nat) (d : Int) (Q : QT) (a : Int) (h : aB) (Kn1 : Int → aB → Prop) : Prop :=
 if (decide (a < ((b : Nat) : Int))) = true then (bM a b (nn c fun f => ldI h (f.add (a.toNat * 2)) .i64 fun g => if (decide (g ≤ d)) = true then (bM a b (nn c fun i => ldI h ((i.add (a.toNat * 2)).add 1) .i64 fun j => if (decide (d ≤ j)) = true then (Q (.bool true) h) else (Kn1 (wrap .i64 (a + 1)) h))) else (Kn1 (wrap .i64 (a + 1)) h))) else (Q (.bool false) h)
def uw (b : Option Addr) (c d : Nat) (a : Int) (Q : QT) (h : aB) : Prop :=
 if (decide (a < 0)) = true then (Q (.bool false) h) else (if (decide (a > 4294967296)) = true then (Q (.bool false) h) else (aH (fun (s : Int) h Kn => oY b c d a Q s h Kn) 0 h))
set_option maxRecDepth 100000 in
theorem Ae (b c d f : _) {Q : QT} {h : aB} (hk : uw b c d f Q h) : aD Tryz.prog lI #[.slice b c d, .int .i64 f] h Q :=
 aW follows Tryz.func138 (Tryz.call138 _) rfl rfl [] [(10, fun e h => dL (e 0) fun b c d => dI .i64 (e 1) fun f => dI .i64 (e 5) fun a => aH (fun (s : Int) h Kn => oY b c d f Q s h Kn) a h)]
 trivial
 ⟨⟨by kernel_rfl, fun e h he hk => by
 have F := Ag.nil (e := e)
 have ⟨b, c, d, F, hk⟩ := eL F hk
 have ⟨f, F, hk⟩ := eI F hk
 have ⟨a, F, hk⟩ := eI F hk
 exact bU (s0 := a) follows (fun _ h => by cases h) he F (fun s => [(5, .int .i64 s)]) (by kernel_rfl) (F.take 1) hk (fun Kn1 e h => dI .i64 (e 5) fun a => Kn1 a h) (fun Kn1 e h hk => by
  have F := Ag.nil (e := e)
  have ⟨a, F, hk⟩ := eI F hk
  exact ⟨a, F, hk⟩)
  (fun Kn1 => []) (fun Kn1 => [])
  (fun Kn1 => trivial)
  (fun Kn1 => trivial) (fun e s h Kn1 => by as_aux_lemma => kernel_rfl)⟩, trivial⟩ (by as_aux_lemma => kernel_rfl) hk
def qQ (f : Addr) (Q : QT) (c a : Int) (h : aB) (Kn1 : Int × Int → aB → Prop) : Prop :=
 ldL h (f.add 14) fun R n S => if (decide (a < ((n : Nat) : Int))) = true then (ldL h (f.add 14) fun o p U => bM a p (nn o fun d => ldS h (d.add (a.toNat * 7)) fun q => ldB h ((d.add (a.toNat * 7)).add 1) fun r => ldB h ((d.add (a.toNat * 7)).add 2) fun s => ldB h ((d.add (a.toNat * 7)).add 3) fun t => ldI h ((d.add (a.toNat * 7)).add 4) .i64 fun u => ldI h ((d.add (a.toNat * 7)).add 5) .i64 fun w => ldB h ((d.add (a.toNat * 7)).add 6) fun x => alV h (.cells #[.string (⟨#[]⟩ : ByteArray), .bool false, .bool false, .bool false, .int .i64 0, .int .i64 0, .bool false] eQ) fun b h2 => stN h2 b [.string q, .bool r, .bool s, .bool t, .int .i64 u, .int .i64 w, .bool x] 0 fun h3 => ldS h3 b fun y => ldB h3 (b.add 1) fun z => ldB h3 (b.add 2) fun A => ldB h3 (b.add 3) fun B => ldI h3 (b.add 4) .i64 fun C => ldI h3 (b.add 5) .i64 fun D => ldB h3 (b.add 6) fun G => aD Tryz.prog qI #[.agg #[.string y, .bool z, .bool A, .bool B, .int .i64 C, .int .i64 D, .bool G]] h3 fun v h4 => ∃ i, v = .bool i ∧ if (!i) = true then (Kn1 (c, wrap .i64 (a + 1)) h4) else (ldB h4 (b.add 6) fun I => if I = true then (Q (.int .i64 a) h4) else (if (decide (c < 0)) = true then (Kn1 (a, wrap .i64 (a + 1)) h4) else (ldL h4 (f.add 14) fun J L V => bM c L (nn J fun M => ldS h4 (M.add (c.toNat * 7)) fun g => ldS h4 b fun N => aD Tryz.prog jQ #[.string N] h4 fun v h5 => ∃ j, v = .int .i64 j ∧ aD Tryz.prog jQ #[.string g] h5 fun v h6 => ∃ k, v = .int .i64 k ∧ if (decide (j > k)) = true then (Kn1 (a, wrap .i64 (a + 1)) h6) else (ldS h6 b fun O => aD Tryz.prog jQ #[.string O] h6 fun v h7 => ∃ l, v = .int .i64 l ∧ aD Tryz.prog jQ #[.string g] h7 fun v h8 => ∃ m, v = .int .i64 m ∧ if (l == m) = true then (ldS h8 b fun P => if (decide (((P.size : Nat) : Int) > ((g.size : Nat) : Int))) = true then (Kn1 (a, wrap .i64 (a + 1)) h8) else (Kn1 (c, wrap .i64 (a + 1)) h8)) else (Kn1 (c, wrap .i64 (a + 1)) h8)))))))) else (Q (.int .i64 c) h)
def wW (a b : Int) (c : Option Addr) (d f : Nat) (g : Option Addr) (i j : Nat) (k : Option Addr) (l m : Nat) (n : Option Addr) (o p : Nat) (q : Bool) (r t u : Int) (w : ByteArray) (x y : Int) (z : Option Addr) (A B : Nat) (C : Option Addr) (D G : Nat) (I : Option Addr) (J L : Nat) (M : Option Addr) (N O : Nat) (P R S U : Int) (Q : QT) (h : aB) : Prop :=
 alV h (.cells #[.int .i64 a, .int .i64 b, .slice c d f, .slice g i j, .slice k l m, .slice n o p, .bool q, .int .i64 r, .int .i64 t, .int .i64 u, .string w, .int .i64 x, .int .i64 y, .slice z A B, .slice C D G, .slice I J L, .slice M N O, .int .i64 P, .int .i64 R, .int .i64 S, .int .i64 U] cH) fun V h1 => aH (fun (s : Int × Int) h Kn => qQ V Q s.1 s.2 h Kn) ((-1), 0) h1
set_option maxRecDepth 100000 in
theorem Co (c d f g i j k l m n o p q r t u w x y z A B C D G I J L M N O P R S U V W : _) {Q : QT} {h : aB} (hk : wW c d f g i j k l m n o p q r t u w x y z A B C D G I J L M N O P R S U V W Q h) : aD Tryz.prog qG #[.agg #[.int .i64 c, .int .i64 d, .slice f g i, .slice j k l, .slice m n o, .slice p q r, .bool t, .int .i64 u, .int .i64 w, .int .i64 x, .string y, .int .i64 z, .int .i64 A, .slice B C D, .slice G I J, .slice L M N, .slice O P R, .int .i64 S, .int .i64 U, .int .i64 V, .int .i64 W]] h Q :=
 aW follows Tryz.func139 (Tryz.call139 _) rfl rfl [] [(8, fun e h => dA (e 1) fun X => dI .i64 (e 3) fun a => dI .i64 (e 4) fun b => aH (fun (s : Int × Int) h Kn => qQ X Q s.1 s.2 h Kn) (a, b) h)]
 trivial
 ⟨⟨by kernel_rfl, fun e h he hk => by
 have F := Ag.nil (e := e)
 have ⟨X, F, hk⟩ := eA F hk
 have ⟨a, F, hk⟩ := eI F hk
 have ⟨b, F, hk⟩ := eI F hk
 exact bU (s0 := (a, b)) follows (fun _ h => by cases h) he F (fun s => [(4, .int .i64 s.2), (3, .int .i64 s.1)]) (by kernel_rfl) (F.take 2) hk (fun Kn1 e h => dI .i64 (e 3) fun a => dI .i64 (e 4) fun b => Kn1 (a, b) h) (fun Kn1 e h hk => by
  have F := Ag.nil (e := e)
  have ⟨a, F, hk⟩ := eI F hk
  have ⟨b, F, hk⟩ := eI F hk
  exact ⟨(a, b), F, hk⟩)
  (fun Kn1 => []) (fun Kn1 => [])
  (fun Kn1 => trivial)
  (fun Kn1 => trivial) (fun e s h Kn1 => by as_aux_lemma => kernel_rfl)⟩, trivial⟩ (by as_aux_lemma => kernel_rfl) hk
def rN (c : Option Addr) (b f : Nat) (Q : QT) (a : Int) (h : aB) (Kn1 : Int → aB → Prop) : Prop :=
 if (decide (a < ((b : Nat) : Int))) = true then (bM a b (nn c fun g => ldI h (g.add (a.toNat * 1)) .u8 fun i => if (decide (i ≥ 65)) = true then (bM a b (nn c fun j => ldI h (j.add (a.toNat * 1)) .u8 fun k => if (decide (k ≤ 90)) = true then (bM a b (nn c fun l => ldI h (l.add (a.toNat * 1)) .u8 fun m => bM a b (nn c fun n => st1 h (n.add (a.toNat * 1)) (.int .u8 (wrap .u8 (m + 32))) fun h2 => Kn1 (wrap .i64 (a + 1)) h2))) else (Kn1 (wrap .i64 (a + 1)) h))) else (Kn1 (wrap .i64 (a + 1)) h))) else (kN Tryz.prog aM bZ (.slice c b f) h fun v h3 => ∃ d, v = .string d ∧ Q (.string d) h3)
def xZ (d : ByteArray) (Q : QT) (h : aB) : Prop :=
 kN Tryz.prog bZ aM (.string d) h fun v h1 => ∃ a b c, v = .slice a b c ∧ aH (fun (s : Int) h Kn => rN a b c Q s h Kn) 0 h1
set_option maxRecDepth 100000 in
theorem Da (b : _) {Q : QT} {h : aB} (hk : xZ b Q h) : aD Tryz.prog rP #[.string b] h Q :=
 aW follows Tryz.func140 (Tryz.call140 _) rfl rfl [] [(8, fun e h => dL (e 3) fun c d f => dI .i64 (e 4) fun a => aH (fun (s : Int) h Kn => rN c d f Q s h Kn) a h)]
 trivial
 ⟨⟨by kernel_rfl, fun e h he hk => by
 have F := Ag.nil (e := e)
 have ⟨c, d, f, F, hk⟩ := eL F hk
 have ⟨a, F, hk⟩ := eI F hk
 exact bU (s0 := a) follows (fun _ h => by cases h) he F (fun s => [(4, .int .i64 s)]) (by kernel_rfl) (F.take 1) hk (fun Kn1 e h => dI .i64 (e 4) fun a => Kn1 a h) (fun Kn1 e h hk => by
  have F := Ag.nil (e := e)
  have ⟨a, F, hk⟩ := eI F hk
  exact ⟨a, F, hk⟩)
  (fun Kn1 => []) (fun Kn1 => [])
  (fun Kn1 => trivial)
  (fun Kn1 => trivial) (fun e s h Kn1 => by as_aux_lemma => kernel_rfl)⟩, trivial⟩ (by as_aux_lemma => kernel_rfl) hk
def x8 (a : Int) (Q : QT) (h : aB) : Prop :=
 if (decide (a ≥ 65)) = true then (if (decide (a ≤ 90)) = true then (Q (.int .u8 (wrap .u8 (a + 32))) h) else (Q (.int .u8 a) h)) else (Q (.int .u8 a) h)
set_option maxRecDepth 100000 in
theorem C5 (a : _) {Q : QT} {h : aB} (hk : x8 a Q h) : aD Tryz.prog oJ #[.int .u8 a] h Q :=
 aW follows Tryz.func141 (Tryz.call141 _) rfl rfl [] []
 trivial
 trivial (by as_aux_lemma => kernel_rfl) hk
def j9 (c : Option Addr) (d g : Nat) (i : Option Addr) (j n : Nat) (k : Int) (Q : QT) (a : Int) (h : aB) (Kn1 : Int → aB → Prop) : Prop :=
 if (decide (a < k)) = true then (bM a j (nn i fun l => ldI h (l.add (a.toNat * 1)) .u8 fun b => if (decide (65 ≤ b)) = true then (if (decide (b ≤ 90)) = true then (bM a d (nn c fun m => st1 h (m.add (a.toNat * 1)) (.int .u8 (wrap .u8 ((wrap .u8 (b + 97)) - 65))) fun h2 => Kn1 (wrap .i64 (a + 1)) h2)) else (Kn1 (wrap .i64 (a + 1)) h)) else (Kn1 (wrap .i64 (a + 1)) h))) else (kN Tryz.prog aM bZ (.slice c d g) h fun v h3 => ∃ f, v = .string f ∧ Q (.string f) h3)
def oH (d : ByteArray) (Q : QT) (h : aB) : Prop :=
 kN Tryz.prog Ad aM (.string d) h fun v h1 => ∃ b a c, v = .slice b a c ∧ aH (fun (s : Int) h Kn => j9 b a c b a c ((a : Nat) : Int) Q s h Kn) 0 h1
set_option maxRecDepth 100000 in
theorem uK (b : _) {Q : QT} {h : aB} (hk : oH b Q h) : aD Tryz.prog nH #[.string b] h Q :=
 aW follows Tryz.func143 (Tryz.call143 _) rfl rfl [] [(8, fun e h => dL (e 3) fun c d f => dL (e 8) fun g i j => dI .i64 (e 9) fun k => dI .i64 (e 10) fun a => aH (fun (s : Int) h Kn => j9 c d f g i j k Q s h Kn) a h)]
 trivial
 ⟨⟨by kernel_rfl, fun e h he hk => by
 have F := Ag.nil (e := e)
 have ⟨c, d, f, F, hk⟩ := eL F hk
 have ⟨g, i, j, F, hk⟩ := eL F hk
 have ⟨k, F, hk⟩ := eI F hk
 have ⟨a, F, hk⟩ := eI F hk
 exact bU (s0 := a) follows (fun _ h => by cases h) he F (fun s => [(10, .int .i64 s)]) (by kernel_rfl) (F.take 1) hk (fun Kn1 e h => dI .i64 (e 10) fun a => Kn1 a h) (fun Kn1 e h hk => by
  have F := Ag.nil (e := e)
  have ⟨a, F, hk⟩ := eI F hk
  exact ⟨a, F, hk⟩)
  (fun Kn1 => []) (fun Kn1 => [])
  (fun Kn1 => trivial)
  (fun Kn1 => trivial) (fun e s h Kn1 => by as_aux_lemma => kernel_rfl)⟩, trivial⟩ (by as_aux_lemma => kernel_rfl) hk
def cR (d : ByteArray) (f : Option Addr) (g i : Nat) (j n k : Int) (Q : QT) (Kn1 : (Option Addr) × Nat × Nat × Int → aB → Prop) (h : aB) : Prop :=
 jD d j fun l => alV h (.cells #[.int .u8 l] gP) fun m h2 => cQ Tryz.prog .append #[aM, aM] aM #[false, false] #[.slice f g i, .slice (some m) 1 1] h2 fun v h3 => ∃ a b c, v = .slice a b c ∧ Kn1 (a, b, c, wrap .i64 (k + 1)) h3
def j5 (g : ByteArray) (i : Int) (Q : QT) (b : Option Addr) (c d : Nat) (a : Int) (h : aB) (Kn1 : (Option Addr) × Nat × Nat × Int → aB → Prop) : Prop :=
 if (decide (a < i)) = true then (jD g a fun f => if (f == 9) = true then (if (f == 9) = true then (Kn1 (b, c, d, wrap .i64 (a + 1)) h) else (cR g b c d a i a Q Kn1 h)) else (if (f == 10) = true then (if (f == 10) = true then (Kn1 (b, c, d, wrap .i64 (a + 1)) h) else (cR g b c d a i a Q Kn1 h)) else (if (f == 13) = true then (if (f == 13) = true then (Kn1 (b, c, d, wrap .i64 (a + 1)) h) else (cR g b c d a i a Q Kn1 h)) else (if (f == 32) = true then (Kn1 (b, c, d, wrap .i64 (a + 1)) h) else (cR g b c d a i a Q Kn1 h))))) else (kN Tryz.prog aM bZ (.slice b c d) h fun v h1 => ∃ j, v = .string j ∧ Q (.string j) h1)
def oV (a : ByteArray) (Q : QT) (h : aB) : Prop :=
 aH (fun (s : (Option Addr) × Nat × Nat × Int) h Kn => j5 a ((a.size : Nat) : Int) Q s.1 s.2.1 s.2.2.1 s.2.2.2 h Kn) (none, 0, 0, 0) h
set_option maxRecDepth 100000 in
theorem uL (f : _) {Q : QT} {h : aB} (hk : oV f Q h) : aD Tryz.prog nN #[.string f] h Q :=
 aW follows Tryz.func144 (Tryz.call144 _) rfl rfl [] [(8, fun e h => dS (e 0) fun f => dI .i64 (e 6) fun g => dL (e 3) fun a b c => dI .i64 (e 7) fun d => aH (fun (s : (Option Addr) × Nat × Nat × Int) h Kn => j5 f g Q s.1 s.2.1 s.2.2.1 s.2.2.2 h Kn) (a, b, c, d) h)]
 trivial
 ⟨⟨by kernel_rfl, fun e h he hk => by
 have F := Ag.nil (e := e)
 have ⟨f, F, hk⟩ := eS F hk
 have ⟨g, F, hk⟩ := eI F hk
 have ⟨a, b, c, F, hk⟩ := eL F hk
 have ⟨d, F, hk⟩ := eI F hk
 exact bU (s0 := (a, b, c, d)) follows (fun _ h => by cases h) he F (fun s => [(7, .int .i64 s.2.2.2), (3, .slice s.1 s.2.1 s.2.2.1)]) (by kernel_rfl) (F.take 2) hk (fun Kn1 e h => dL (e 3) fun a b c => dI .i64 (e 7) fun d => Kn1 (a, b, c, d) h) (fun Kn1 e h hk => by
  have F := Ag.nil (e := e)
  have ⟨a, b, c, F, hk⟩ := eL F hk
  have ⟨d, F, hk⟩ := eI F hk
  exact ⟨(a, b, c, d), F, hk⟩)
  (fun Kn1 => [(15, fun e h => dS (e 0) fun f => dL (e 3) fun a b c => dI .i64 (e 4) fun i => dI .i64 (e 6) fun g => dI .i64 (e 7) fun d => cR f a b c i g d Q Kn1 h)]) (fun Kn1 => [])
  (fun Kn1 => ⟨fun e h _ hk => by
 have F := Ag.nil (e := e)
 have ⟨f, F, hk⟩ := eS F hk
 have ⟨a, b, c, F, hk⟩ := eL F hk
 have ⟨i, F, hk⟩ := eI F hk
 have ⟨g, F, hk⟩ := eI F hk
 have ⟨d, F, hk⟩ := eI F hk
 exact fG F (by as_aux_lemma => kernel_rfl) hk, trivial⟩)
  (fun Kn1 => trivial) (fun e s h Kn1 => by as_aux_lemma => kernel_rfl)⟩, trivial⟩ (by as_aux_lemma => kernel_rfl) hk
def cK (f : ByteArray) (g : Option Addr) (i j : Nat) (a : Int) (Q : QT) (Kn1 : (Option Addr) × Nat × Nat × Int → aB → Prop) (h : aB) : Prop :=
 jD f a fun k => alV h (.cells #[.int .u8 k] gP) fun l h6 => cQ Tryz.prog .append #[aM, aM] aM #[false, false] #[.slice g i j, .slice (some l) 1 1] h6 fun v h7 => ∃ b c d, v = .slice b c d ∧ Kn1 (b, c, d, wrap .i64 (a + 1)) h7
def jl (b : ByteArray) (Q : QT) (c : Option Addr) (d f : Nat) (a : Int) (h : aB) (Kn1 : (Option Addr) × Nat × Nat × Int → aB → Prop) : Prop :=
 if (decide (a < ((b.size : Nat) : Int))) = true then (jD b a fun n => if (n == 37) = true then (if (decide ((wrap .i64 (((b.size : Nat) : Int) - a)) > 2)) = true then (jD b (wrap .i64 (a + 1)) fun o => jD b (wrap .i64 (a + 2)) fun p => aD Tryz.prog iW #[.int .u8 o] h fun v h1 => ∃ g, v = .int .i64 g ∧ aD Tryz.prog iW #[.int .u8 p] h1 fun v h2 => ∃ i, v = .int .i64 i ∧ if (decide (g ≥ 0)) = true then (if (decide (i ≥ 0)) = true then (alV h2 (.cells #[.int .u8 (wrap .u8 (wrap .i64 ((wrap .i64 (16 * g)) + i)))] gP) fun q h3 => cQ Tryz.prog .append #[aM, aM] aM #[false, false] #[.slice c d f, .slice (some q) 1 1] h3 fun v h4 => ∃ j k l, v = .slice j k l ∧ Kn1 (j, k, l, wrap .i64 ((wrap .i64 (a + 2)) + 1)) h4) else (cK b c d f a Q Kn1 h2)) else (cK b c d f a Q Kn1 h2)) else (cK b c d f a Q Kn1 h)) else (cK b c d f a Q Kn1 h)) else (kN Tryz.prog aM bZ (.slice c d f) h fun v h5 => ∃ m, v = .string m ∧ Q (.string m) h5)
def mP (a : ByteArray) (Q : QT) (h : aB) : Prop :=
 aH (fun (s : (Option Addr) × Nat × Nat × Int) h Kn => jl a Q s.1 s.2.1 s.2.2.1 s.2.2.2 h Kn) (none, 0, 0, 0) h
set_option maxRecDepth 100000 in
theorem th (f : _) {Q : QT} {h : aB} (hk : mP f Q h) : aD Tryz.prog mD #[.string f] h Q :=
 aW follows Tryz.func145 (Tryz.call145 _) rfl rfl [] [(8, fun e h => dS (e 0) fun f => dL (e 3) fun a b c => dI .i64 (e 4) fun d => aH (fun (s : (Option Addr) × Nat × Nat × Int) h Kn => jl f Q s.1 s.2.1 s.2.2.1 s.2.2.2 h Kn) (a, b, c, d) h)]
 trivial
 ⟨⟨by kernel_rfl, fun e h he hk => by
 have F := Ag.nil (e := e)
 have ⟨f, F, hk⟩ := eS F hk
 have ⟨a, b, c, F, hk⟩ := eL F hk
 have ⟨d, F, hk⟩ := eI F hk
 exact bU (s0 := (a, b, c, d)) follows (fun _ h => by cases h) he F (fun s => [(4, .int .i64 s.2.2.2), (3, .slice s.1 s.2.1 s.2.2.1)]) (by kernel_rfl) (F.take 2) hk (fun Kn1 e h => dL (e 3) fun a b c => dI .i64 (e 4) fun d => Kn1 (a, b, c, d) h) (fun Kn1 e h hk => by
  have F := Ag.nil (e := e)
  have ⟨a, b, c, F, hk⟩ := eL F hk
  have ⟨d, F, hk⟩ := eI F hk
  exact ⟨(a, b, c, d), F, hk⟩)
  (fun Kn1 => [(22, fun e h => dS (e 0) fun f => dL (e 3) fun a b c => dI .i64 (e 4) fun d => cK f a b c d Q Kn1 h)]) (fun Kn1 => [])
  (fun Kn1 => ⟨fun e h _ hk => by
 have F := Ag.nil (e := e)
 have ⟨f, F, hk⟩ := eS F hk
 have ⟨a, b, c, F, hk⟩ := eL F hk
 have ⟨d, F, hk⟩ := eI F hk
 exact fG F (by as_aux_lemma => kernel_rfl) hk, trivial⟩)
  (fun Kn1 => trivial) (fun e s h Kn1 => by as_aux_lemma => kernel_rfl)⟩, trivial⟩ (by as_aux_lemma => kernel_rfl) hk
def jH (k : ByteArray) (o : Int) (Q : QT) (c : Option Addr) (d f : Nat) (j a b : Int) (h : aB) (Kn1 : (Option Addr) × Nat × Nat × Int × Int × Int → aB → Prop) : Prop :=
 if (decide (b < o)) = true then (jD k b fun p => if (p == 61) = true then (kN Tryz.prog aM bZ (.slice c d f) h fun v h1 => ∃ g, v = .string g ∧ Q (.string g) h1) else (jD k b fun q => aD Tryz.prog jp #[.string (⟨#[65, 66, 67, 68, 69, 70, 71, 72, 73, 74, 75, 76, 77, 78, 79, 80, 81, 82, 83, 84, 85, 86, 87, 88, 89, 90, 97, 98, 99, 100, 101, 102, 103, 104, 105, 106, 107, 108, 109, 110, 111, 112, 113, 114, 115, 116, 117, 118, 119, 120, 121, 122, 48, 49, 50, 51, 52, 53, 54, 55, 56, 57, 43, 47]⟩ : ByteArray), .int .u8 q] h fun v h2 => ∃ i, v = .int .i64 i ∧ if (decide (i < 0)) = true then (Kn1 (c, d, f, j, a, wrap .i64 (b + 1)) h2) else (0 ≤ (6 : Int) ∧ if (decide ((wrap .i64 (a + 6)) ≥ 8)) = true then (0 ≤ (wrap .i64 ((wrap .i64 (a + 6)) - 8)) ∧ alV h2 (.cells #[.int .u8 (wrap .u8 (Int.fdiv (wrap .i64 (BitVec.toNat (BitVec.ofInt (IntKind.bits .i64) (wrap .i64 (j * 2 ^ (min (Int.toNat 6) (IntKind.bits .i64)))) ||| BitVec.ofInt (IntKind.bits .i64) i) : Int)) (2 ^ (min (Int.toNat (wrap .i64 ((wrap .i64 (a + 6)) - 8))) (IntKind.bits .i64)))))] gP) fun r h3 => cQ Tryz.prog .append #[aM, aM] aM #[false, false] #[.slice c d f, .slice (some r) 1 1] h3 fun v h4 => ∃ l m n, v = .slice l m n ∧ 0 ≤ (wrap .i64 ((wrap .i64 (a + 6)) - 8)) ∧ Kn1 (l, m, n, wrap .i64 (BitVec.toNat (BitVec.ofInt (IntKind.bits .i64) (wrap .i64 (BitVec.toNat (BitVec.ofInt (IntKind.bits .i64) (wrap .i64 (j * 2 ^ (min (Int.toNat 6) (IntKind.bits .i64)))) ||| BitVec.ofInt (IntKind.bits .i64) i) : Int)) &&& BitVec.ofInt (IntKind.bits .i64) (wrap .i64 ((wrap .i64 (1 * 2 ^ (min (Int.toNat (wrap .i64 ((wrap .i64 (a + 6)) - 8))) (IntKind.bits .i64)))) - 1))) : Int), wrap .i64 ((wrap .i64 (a + 6)) - 8), wrap .i64 (b + 1)) h4) else (Kn1 (c, d, f, wrap .i64 (BitVec.toNat (BitVec.ofInt (IntKind.bits .i64) (wrap .i64 (j * 2 ^ (min (Int.toNat 6) (IntKind.bits .i64)))) ||| BitVec.ofInt (IntKind.bits .i64) i) : Int), wrap .i64 (a + 6), wrap .i64 (b + 1)) h2)))) else (kN Tryz.prog aM bZ (.slice c d f) h fun v h5 => ∃ g, v = .string g ∧ Q (.string g) h5)
def nT (a : ByteArray) (Q : QT) (h : aB) : Prop :=
 aH (fun (s : (Option Addr) × Nat × Nat × Int × Int × Int) h Kn => jH a ((a.size : Nat) : Int) Q s.1 s.2.1 s.2.2.1 s.2.2.2.1 s.2.2.2.2.1 s.2.2.2.2.2 h Kn) (none, 0, 0, 0, 0, 0) h
set_option maxRecDepth 100000 in
theorem uE (i : _) {Q : QT} {h : aB} (hk : nT i Q h) : aD Tryz.prog mR #[.string i] h Q :=
 aW follows Tryz.func146 (Tryz.call146 _) rfl rfl [] [(10, fun e h => dS (e 0) fun i => dI .i64 (e 9) fun j => dL (e 3) fun a b c => dI .i64 (e 4) fun d => dI .i64 (e 5) fun f => dI .i64 (e 10) fun g => aH (fun (s : (Option Addr) × Nat × Nat × Int × Int × Int) h Kn => jH i j Q s.1 s.2.1 s.2.2.1 s.2.2.2.1 s.2.2.2.2.1 s.2.2.2.2.2 h Kn) (a, b, c, d, f, g) h)]
 trivial
 ⟨⟨by kernel_rfl, fun e h he hk => by
 have F := Ag.nil (e := e)
 have ⟨i, F, hk⟩ := eS F hk
 have ⟨j, F, hk⟩ := eI F hk
 have ⟨a, b, c, F, hk⟩ := eL F hk
 have ⟨d, F, hk⟩ := eI F hk
 have ⟨f, F, hk⟩ := eI F hk
 have ⟨g, F, hk⟩ := eI F hk
 exact bU (s0 := (a, b, c, d, f, g)) follows (fun _ h => by cases h) he F (fun s => [(10, .int .i64 s.2.2.2.2.2), (5, .int .i64 s.2.2.2.2.1), (4, .int .i64 s.2.2.2.1), (3, .slice s.1 s.2.1 s.2.2.1)]) (by kernel_rfl) (F.take 4) hk (fun Kn1 e h => dL (e 3) fun a b c => dI .i64 (e 4) fun d => dI .i64 (e 5) fun f => dI .i64 (e 10) fun g => Kn1 (a, b, c, d, f, g) h) (fun Kn1 e h hk => by
  have F := Ag.nil (e := e)
  have ⟨a, b, c, F, hk⟩ := eL F hk
  have ⟨d, F, hk⟩ := eI F hk
  have ⟨f, F, hk⟩ := eI F hk
  have ⟨g, F, hk⟩ := eI F hk
  exact ⟨(a, b, c, d, f, g), F, hk⟩)
  (fun Kn1 => []) (fun Kn1 => [])
  (fun Kn1 => trivial)
  (fun Kn1 => trivial) (fun e s h Kn1 => by as_aux_lemma => kernel_rfl)⟩, trivial⟩ (by as_aux_lemma => kernel_rfl) hk
def ix (p q : ByteArray) (b : Option Addr) (a c : Nat) (r : Option Addr) (s t : Nat) (j : ByteArray) (u : Option Addr) (w x : Nat) (y d : Int) (k : ByteArray) (Q : QT) (Kn2 : (Option Addr) × Nat × Nat × Int → aB → Prop) (h : aB) : Prop :=
 if (k.toList == (⟨#[46, 46]⟩ : ByteArray).toList) = true then (fV 1 b a c none (some (if (0 : Int) > (wrap .i64 (((a : Nat) : Int) - 1)) then (0 : Int) else (wrap .i64 (((a : Nat) : Int) - 1)))) none fun l m n => Kn2 (l, m, n, wrap .i64 (d + 1)) h) else (alV h (.cells #[.string j] bZ) fun o h3 => cQ Tryz.prog .append #[eZ, eZ] eZ #[false, false] #[.slice b a c, .slice (some o) 1 1] h3 fun v h4 => ∃ f g i, v = .slice f g i ∧ Kn2 (f, g, i, wrap .i64 (d + 1)) h4)
def fM (a b : ByteArray) (Q : QT) (h : aB) : Prop :=
 ((b.size + a.size : Nat) : Int) ≤ IntKind.max .i64 ∧ Q (.string (b ++ a)) h
def bJ (a b : ByteArray) (Q : QT) (h : aB) : Prop :=
 if (b.toList == (⟨#[]⟩ : ByteArray).toList) = true then (fM a (⟨#[47]⟩ : ByteArray) Q h) else (fM a b Q h)
def fP (c : ByteArray) (i : Option Addr) (g j : Nat) (k : Option Addr) (d m : Nat) (b : ByteArray) (Q : QT) (h : aB) : Prop :=
 aD Tryz.prog mY #[.slice i g j, .string (⟨#[47]⟩ : ByteArray)] h fun v h6 => ∃ a, v = .string a ∧ ((b.size + a.size : Nat) : Int) ≤ IntKind.max .i64 ∧ bM (wrap .i64 (((d : Nat) : Int) - 1)) d (nn k fun l => ldS h6 (l.add (((wrap .i64 (((d : Nat) : Int) - 1))).toNat * 1)) fun f => if (decide (((g : Nat) : Int) > 0)) = true then (if (f.toList == (⟨#[]⟩ : ByteArray).toList) = true then ((((b ++ a).size + (⟨#[47]⟩ : ByteArray).size : Nat) : Int) ≤ IntKind.max .i64 ∧ bJ c ((b ++ a) ++ (⟨#[47]⟩ : ByteArray)) Q h6) else (if (f.toList == (⟨#[46]⟩ : ByteArray).toList) = true then ((((b ++ a).size + (⟨#[47]⟩ : ByteArray).size : Nat) : Int) ≤ IntKind.max .i64 ∧ bJ c ((b ++ a) ++ (⟨#[47]⟩ : ByteArray)) Q h6) else (if (f.toList == (⟨#[46, 46]⟩ : ByteArray).toList) = true then ((((b ++ a).size + (⟨#[47]⟩ : ByteArray).size : Nat) : Int) ≤ IntKind.max .i64 ∧ bJ c ((b ++ a) ++ (⟨#[47]⟩ : ByteArray)) Q h6) else (bJ c (b ++ a) Q h6)))) else (bJ c (b ++ a) Q h6))
def kG (k a : ByteArray) (b : Option Addr) (c d : Nat) (f : Option Addr) (g i : Nat) (Q : QT) (h : aB) : Prop :=
 aD Tryz.prog md #[.string k, .string (⟨#[47]⟩ : ByteArray)] h fun v h5 => ∃ j, v = .bool j ∧ if j = true then (fP a b c d f g i (⟨#[47]⟩ : ByteArray) Q h5) else (fP a b c d f g i (⟨#[]⟩ : ByteArray) Q h5)
def kF (g i : ByteArray) (j : Option Addr) (k l : Nat) (m : Option Addr) (n p : Nat) (o : Int) (Q : QT) (c : Option Addr) (d f : Nat) (a : Int) (h : aB) (Kn2 : (Option Addr) × Nat × Nat × Int → aB → Prop) : Prop :=
 if (decide (a < o)) = true then (bM a n (nn m fun q => ldS h (q.add (a.toNat * 1)) fun b => if (b.toList == (⟨#[]⟩ : ByteArray).toList) = true then (if (b.toList == (⟨#[]⟩ : ByteArray).toList) = true then (Kn2 (c, d, f, wrap .i64 (a + 1)) h) else (ix g i c d f j k l b m n p o a b Q Kn2 h)) else (if (b.toList == (⟨#[46]⟩ : ByteArray).toList) = true then (Kn2 (c, d, f, wrap .i64 (a + 1)) h) else (ix g i c d f j k l b m n p o a b Q Kn2 h)))) else (kG g i c d f j k l Q h)
def fE (d f : ByteArray) (Q : QT) (h : aB) : Prop :=
 aD Tryz.prog pT #[.string d, .string (⟨#[47]⟩ : ByteArray)] h fun v h2 => ∃ b a c, v = .slice b a c ∧ aH (fun (s : (Option Addr) × Nat × Nat × Int) h Kn => kF d f b a c b a c ((a : Nat) : Int) Q s.1 s.2.1 s.2.2.1 s.2.2.2 h Kn) (none, 0, 0, 0) h2
def py (a : ByteArray) (Q : QT) (h : aB) : Prop :=
 aD Tryz.prog jp #[.string a, .int .u8 63] h fun v h1 => ∃ b, v = .int .i64 b ∧ if (decide (b ≥ 0)) = true then (mV a none (some b) fun c => mV a (some b) none fun d => fE c d Q h1) else (fE a (⟨#[]⟩ : ByteArray) Q h1)
set_option maxRecDepth 100000 in
theorem vY (q : _) {Q : QT} {h : aB} (hk : py q Q h) : aD Tryz.prog pe #[.string q] h Q :=
 aW follows Tryz.func147 (Tryz.call147 _) rfl rfl [(12, fun e h => dS (e 3) fun f => dS (e 4) fun a => fE f a Q h), (36, fun e h => dS (e 3) fun f => dS (e 4) fun a => dL (e 6) fun b c d => dL (e 7) fun g i j => kG f a b c d g i j Q h), (42, fun e h => dS (e 4) fun a => dL (e 6) fun b c d => dL (e 7) fun g i j => dS (e 10) fun l => fP a b c d g i j l Q h), (50, fun e h => dS (e 4) fun a => dS (e 10) fun l => bJ a l Q h), (54, fun e h => dS (e 4) fun a => dS (e 10) fun l => fM a l Q h)] [(18, fun e h => dS (e 3) fun f => dS (e 4) fun a => dL (e 7) fun g i j => dL (e 25) fun m n o => dI .i64 (e 26) fun p => dL (e 6) fun b c d => dI .i64 (e 27) fun k => aH (fun (s : (Option Addr) × Nat × Nat × Int) h Kn => kF f a g i j m n o p Q s.1 s.2.1 s.2.2.1 s.2.2.2 h Kn) (b, c, d, k) h)]
 ⟨fun e h _ hk => by
 have F := Ag.nil (e := e)
 have ⟨f, F, hk⟩ := eS F hk
 have ⟨a, F, hk⟩ := eS F hk
 exact fG F (by as_aux_lemma => kernel_rfl) hk, fun e h _ hk => by
 have F := Ag.nil (e := e)
 have ⟨f, F, hk⟩ := eS F hk
 have ⟨a, F, hk⟩ := eS F hk
 have ⟨b, c, d, F, hk⟩ := eL F hk
 have ⟨g, i, j, F, hk⟩ := eL F hk
 exact fG F (by as_aux_lemma => kernel_rfl) hk, fun e h _ hk => by
 have F := Ag.nil (e := e)
 have ⟨a, F, hk⟩ := eS F hk
 have ⟨b, c, d, F, hk⟩ := eL F hk
 have ⟨g, i, j, F, hk⟩ := eL F hk
 have ⟨l, F, hk⟩ := eS F hk
 exact fG F (by as_aux_lemma => kernel_rfl) hk, fun e h _ hk => by
 have F := Ag.nil (e := e)
 have ⟨a, F, hk⟩ := eS F hk
 have ⟨l, F, hk⟩ := eS F hk
 exact fG F (by as_aux_lemma => kernel_rfl) hk, fun e h _ hk => by
 have F := Ag.nil (e := e)
 have ⟨a, F, hk⟩ := eS F hk
 have ⟨l, F, hk⟩ := eS F hk
 exact fG F (by as_aux_lemma => kernel_rfl) hk, trivial⟩
 ⟨⟨by kernel_rfl, fun e h he hk => by
 have F := Ag.nil (e := e)
 have ⟨f, F, hk⟩ := eS F hk
 have ⟨a, F, hk⟩ := eS F hk
 have ⟨g, i, j, F, hk⟩ := eL F hk
 have ⟨m, n, o, F, hk⟩ := eL F hk
 have ⟨p, F, hk⟩ := eI F hk
 have ⟨b, c, d, F, hk⟩ := eL F hk
 have ⟨k, F, hk⟩ := eI F hk
 exact bU (s0 := (b, c, d, k)) follows (fun _ h => by cases h) he F (fun s => [(27, .int .i64 s.2.2.2), (6, .slice s.1 s.2.1 s.2.2.1)]) (by kernel_rfl) (F.take 2) hk (fun Kn2 e h => dL (e 6) fun b c d => dI .i64 (e 27) fun k => Kn2 (b, c, d, k) h) (fun Kn2 e h hk => by
  have F := Ag.nil (e := e)
  have ⟨b, c, d, F, hk⟩ := eL F hk
  have ⟨k, F, hk⟩ := eI F hk
  exact ⟨(b, c, d, k), F, hk⟩)
  (fun Kn2 => [(31, fun e h => dS (e 3) fun f => dS (e 4) fun a => dL (e 6) fun b c d => dL (e 7) fun g i j => dS (e 9) fun r => dL (e 25) fun m n o => dI .i64 (e 26) fun p => dI .i64 (e 27) fun k => dS (e 31) fun t => ix f a b c d g i j r m n o p k t Q Kn2 h)]) (fun Kn2 => [])
  (fun Kn2 => ⟨fun e h _ hk => by
 have F := Ag.nil (e := e)
 have ⟨f, F, hk⟩ := eS F hk
 have ⟨a, F, hk⟩ := eS F hk
 have ⟨b, c, d, F, hk⟩ := eL F hk
 have ⟨g, i, j, F, hk⟩ := eL F hk
 have ⟨r, F, hk⟩ := eS F hk
 have ⟨m, n, o, F, hk⟩ := eL F hk
 have ⟨p, F, hk⟩ := eI F hk
 have ⟨k, F, hk⟩ := eI F hk
 have ⟨t, F, hk⟩ := eS F hk
 exact fG F (by as_aux_lemma => kernel_rfl) hk, trivial⟩)
  (fun Kn2 => trivial) (fun e s h Kn2 => by as_aux_lemma => kernel_rfl)⟩, trivial⟩ (by as_aux_lemma => kernel_rfl) hk
def lx (m : ByteArray) (n : Int) (Q : QT) (b : Option Addr) (c d : Nat) (g a : Int) (h : aB) (Kn1 : (Option Addr) × Nat × Nat × Int × Int → aB → Prop) : Prop :=
 if (decide (a < n)) = true then (jD m a fun o => aD Tryz.prog iW #[.int .u8 o] h fun v h1 => ∃ f, v = .int .i64 f ∧ if (decide (f < 0)) = true then (Kn1 (b, c, d, g, wrap .i64 (a + 1)) h1) else (if (decide (g < 0)) = true then (Kn1 (b, c, d, f, wrap .i64 (a + 1)) h1) else (alV h1 (.cells #[.int .u8 (wrap .u8 (wrap .i64 ((wrap .i64 (16 * g)) + f)))] gP) fun p h2 => cQ Tryz.prog .append #[aM, aM] aM #[false, false] #[.slice b c d, .slice (some p) 1 1] h2 fun v h3 => ∃ i j k, v = .slice i j k ∧ Kn1 (i, j, k, (-1), wrap .i64 (a + 1)) h3))) else (kN Tryz.prog aM bZ (.slice b c d) h fun v h4 => ∃ l, v = .string l ∧ Q (.string l) h4)
def qt (a : ByteArray) (Q : QT) (h : aB) : Prop :=
 aH (fun (s : (Option Addr) × Nat × Nat × Int × Int) h Kn => lx a ((a.size : Nat) : Int) Q s.1 s.2.1 s.2.2.1 s.2.2.2.1 s.2.2.2.2 h Kn) (none, 0, 0, (-1), 0) h
set_option maxRecDepth 100000 in
theorem wH (g : _) {Q : QT} {h : aB} (hk : qt g Q h) : aD Tryz.prog pJ #[.string g] h Q :=
 aW follows Tryz.func148 (Tryz.call148 _) rfl rfl [] [(10, fun e h => dS (e 0) fun g => dI .i64 (e 8) fun i => dL (e 3) fun a b c => dI .i64 (e 4) fun d => dI .i64 (e 9) fun f => aH (fun (s : (Option Addr) × Nat × Nat × Int × Int) h Kn => lx g i Q s.1 s.2.1 s.2.2.1 s.2.2.2.1 s.2.2.2.2 h Kn) (a, b, c, d, f) h)]
 trivial
 ⟨⟨by kernel_rfl, fun e h he hk => by
 have F := Ag.nil (e := e)
 have ⟨g, F, hk⟩ := eS F hk
 have ⟨i, F, hk⟩ := eI F hk
 have ⟨a, b, c, F, hk⟩ := eL F hk
 have ⟨d, F, hk⟩ := eI F hk
 have ⟨f, F, hk⟩ := eI F hk
 exact bU (s0 := (a, b, c, d, f)) follows (fun _ h => by cases h) he F (fun s => [(9, .int .i64 s.2.2.2.2), (4, .int .i64 s.2.2.2.1), (3, .slice s.1 s.2.1 s.2.2.1)]) (by kernel_rfl) (F.take 3) hk (fun Kn1 e h => dL (e 3) fun a b c => dI .i64 (e 4) fun d => dI .i64 (e 9) fun f => Kn1 (a, b, c, d, f) h) (fun Kn1 e h hk => by
  have F := Ag.nil (e := e)
  have ⟨a, b, c, F, hk⟩ := eL F hk
  have ⟨d, F, hk⟩ := eI F hk
  have ⟨f, F, hk⟩ := eI F hk
  exact ⟨(a, b, c, d, f), F, hk⟩)
  (fun Kn1 => []) (fun Kn1 => [])
  (fun Kn1 => trivial)
  (fun Kn1 => trivial) (fun e s h Kn1 => by as_aux_lemma => kernel_rfl)⟩, trivial⟩ (by as_aux_lemma => kernel_rfl) hk
def pH (a : ByteArray) (Q : QT) (h : aB) : Prop :=
 Q (.string a) h
set_option maxRecDepth 100000 in
theorem vW (a : _) {Q : QT} {h : aB} (hk : pH a Q h) : aD Tryz.prog oZ #[.string a] h Q :=
 aW follows Tryz.func149 (Tryz.call149 _) rfl rfl [] []
 trivial
 trivial (by as_aux_lemma => kernel_rfl) hk
def wg (a : Int) (Q : QT) (h : aB) : Prop :=
 if (decide (a ≥ 97)) = true then (if (decide (a ≤ 122)) = true then (Q (.bool true) h) else (if (decide (a ≥ 65)) = true then (Q (.bool (decide (a ≤ 90))) h) else (Q (.bool false) h))) else (if (decide (a ≥ 65)) = true then (Q (.bool (decide (a ≤ 90))) h) else (Q (.bool false) h))
set_option maxRecDepth 100000 in
theorem Cf (a : _) {Q : QT} {h : aB} (hk : wg a Q h) : aD Tryz.prog mZ #[.int .u8 a] h Q :=
 aW follows Tryz.func150 (Tryz.call150 _) rfl rfl [] []
 trivial
 trivial (by as_aux_lemma => kernel_rfl) hk
def wB (a : Int) (Q : QT) (h : aB) : Prop :=
 aD Tryz.prog mZ #[.int .u8 a] h fun v h1 => ∃ b, v = .bool b ∧ if b = true then (Q (.bool true) h1) else (aD Tryz.prog sb #[.int .u8 a] h1 fun v h2 => ∃ c, v = .bool c ∧ if c = true then (Q (.bool true) h2) else (Q (.bool (a == 95)) h2))
set_option maxRecDepth 100000 in
theorem CK (a : _) {Q : QT} {h : aB} (hk : wB a Q h) : aD Tryz.prog qN #[.int .u8 a] h Q :=
 aW follows Tryz.func151 (Tryz.call151 _) rfl rfl [] []
 trivial
 trivial (by as_aux_lemma => kernel_rfl) hk
def yL (b : Bool) (c : ByteArray) (d f : Int) (Q : QT) (h : aB) : Prop :=
 alV h (.cells #[.bool b, .string c, .int .i64 d, .int .i64 f] oK) fun a h1 => ldS h1 (a.add 1) fun g => if (!(g.toList == (⟨#[]⟩ : ByteArray).toList)) = true then (Q (.bool true) h1) else (ldI h1 (a.add 2) .i64 fun i => if (decide (i ≥ 0)) = true then (ldI h1 (a.add 2) .i64 fun j => ldI h1 (a.add 3) .i64 fun k => if (decide (j ≤ k)) = true then (ldI h1 (a.add 3) .i64 fun l => Q (.bool (decide (l ≤ 65535))) h1) else (Q (.bool false) h1)) else (Q (.bool false) h1))
set_option maxRecDepth 100000 in
theorem Ev (a b c d : _) {Q : QT} {h : aB} (hk : yL a b c d Q h) : aD Tryz.prog tP #[.agg #[.bool a, .string b, .int .i64 c, .int .i64 d]] h Q :=
 aW follows Tryz.func152 (Tryz.call152 _) rfl rfl [] []
 trivial
 trivial (by as_aux_lemma => kernel_rfl) hk
def yc (b : Bool) (c d : Int) (Q : QT) (h : aB) : Prop :=
 alV h (.cells #[.bool b, .int .u64 c, .int .u64 d] cN) fun a h1 => ldB h1 a fun f => if f = true then (Q (.bool true) h1) else (ldI h1 (a.add 1) .u64 fun g => if (g == 0) = true then (ldI h1 (a.add 2) .u64 fun i => Q (.bool (decide (i < 4294967296))) h1) else (Q (.bool false) h1))
set_option maxRecDepth 100000 in
theorem Dn (a b c : _) {Q : QT} {h : aB} (hk : yc a b c Q h) : aD Tryz.prog r7 #[.agg #[.bool a, .int .u64 b, .int .u64 c]] h Q :=
 aW follows Tryz.func153 (Tryz.call153 _) rfl rfl [] []
 trivial
 trivial (by as_aux_lemma => kernel_rfl) hk
def yd (a : Bool) (b c : Int) (Q : QT) (h : aB) : Prop :=
 alV h (.cells #[.bool a, .int .u64 b, .int .u64 c] cN) fun d h1 => ldB h1 d fun f => if f = true then (Q (.int .i64 128) h1) else (Q (.int .i64 32) h1)
set_option maxRecDepth 100000 in
theorem Du (a b c : _) {Q : QT} {h : aB} (hk : yd a b c Q h) : aD Tryz.prog oi #[.agg #[.bool a, .int .u64 b, .int .u64 c]] h Q :=
 aW follows Tryz.func154 (Tryz.call154 _) rfl rfl [] []
 trivial
 trivial (by as_aux_lemma => kernel_rfl) hk
def tm (b a : Addr) (Q : QT) (h : aB) : Prop :=
 ldB h b fun c => ldI h (b.add 1) .u64 fun d => ldI h (b.add 2) .u64 fun f => stN h a [.bool c, .int .u64 d, .int .u64 f] 0 fun h8 => ldB h8 a fun g => ldI h8 (a.add 1) .u64 fun i => ldI h8 (a.add 2) .u64 fun j => Q (.agg #[.bool g, .int .u64 i, .int .u64 j]) h8
def tJ (f : Bool) (a g : Addr) (Q : QT) (b : Int) (h : aB) (Kn1 : Int → aB → Prop) : Prop :=
 ldB h a fun i => ldI h (a.add 1) .u64 fun j => ldI h (a.add 2) .u64 fun k => aD Tryz.prog oi #[.agg #[.bool i, .int .u64 j, .int .u64 k]] h fun v h3 => ∃ c, v = .int .i64 c ∧ if (decide (b < c)) = true then (ldB h3 a fun l => ldI h3 (a.add 1) .u64 fun m => ldI h3 (a.add 2) .u64 fun n => aD Tryz.prog vg #[.agg #[.bool l, .int .u64 m, .int .u64 n], .int .i64 b] h3 fun v h4 => ∃ d, v = .bool d ∧ if (d == f) = true then (Kn1 (wrap .i64 (b + 1)) h4) else (ldB h4 a fun o => if (!o) = true then (ldI h4 (a.add 2) .u64 fun p => 0 ≤ (wrap .u64 (wrap .i64 (31 - b))) ∧ st1 h4 (a.add 2) (.int .u64 (wrap .u64 (BitVec.toNat (BitVec.ofInt (IntKind.bits .u64) p ^^^ BitVec.ofInt (IntKind.bits .u64) (wrap .u64 (1 * 2 ^ (min (Int.toNat (wrap .u64 (wrap .i64 (31 - b)))) (IntKind.bits .u64))))) : Int))) fun h5 => Kn1 (wrap .i64 (b + 1)) h5) else (if (decide (b < 64)) = true then (ldI h4 (a.add 1) .u64 fun q => 0 ≤ (wrap .u64 (wrap .i64 (63 - b))) ∧ st1 h4 (a.add 1) (.int .u64 (wrap .u64 (BitVec.toNat (BitVec.ofInt (IntKind.bits .u64) q ^^^ BitVec.ofInt (IntKind.bits .u64) (wrap .u64 (1 * 2 ^ (min (Int.toNat (wrap .u64 (wrap .i64 (63 - b)))) (IntKind.bits .u64))))) : Int))) fun h6 => Kn1 (wrap .i64 (b + 1)) h6) else (ldI h4 (a.add 2) .u64 fun r => 0 ≤ (wrap .u64 (wrap .i64 (127 - b))) ∧ st1 h4 (a.add 2) (.int .u64 (wrap .u64 (BitVec.toNat (BitVec.ofInt (IntKind.bits .u64) r ^^^ BitVec.ofInt (IntKind.bits .u64) (wrap .u64 (1 * 2 ^ (min (Int.toNat (wrap .u64 (wrap .i64 (127 - b)))) (IntKind.bits .u64))))) : Int))) fun h7 => Kn1 (wrap .i64 (b + 1)) h7)))) else (tm a g Q h3)
def zB (a : Bool) (b c d : Int) (f : Bool) (Q : QT) (h : aB) : Prop :=
 alV h (.cells #[.bool a, .int .u64 b, .int .u64 c] cN) fun g h1 => alV h1 (.cells #[.bool false, .int .u64 0, .int .u64 0] cN) fun i h2 => aH (fun (s : Int) h Kn => tJ f g i Q s h Kn) d h2
set_option maxRecDepth 100000 in
theorem EA (f g i j b : _) {Q : QT} {h : aB} (hk : zB f g i j b Q h) : aD Tryz.prog tR #[.agg #[.bool f, .int .u64 g, .int .u64 i], .int .i64 j, .bool b] h Q :=
 aW follows Tryz.func155 (Tryz.call155 _) rfl rfl [(22, fun e h => dA (e 3) fun c => dA (e 6) fun d => tm c d Q h)] [(6, fun e h => dB (e 2) fun b => dA (e 3) fun c => dA (e 6) fun d => dI .i64 (e 7) fun a => aH (fun (s : Int) h Kn => tJ b c d Q s h Kn) a h)]
 ⟨fun e h _ hk => by
 have F := Ag.nil (e := e)
 have ⟨c, F, hk⟩ := eA F hk
 have ⟨d, F, hk⟩ := eA F hk
 exact fG F (by as_aux_lemma => kernel_rfl) hk, trivial⟩
 ⟨⟨by kernel_rfl, fun e h he hk => by
 have F := Ag.nil (e := e)
 have ⟨b, F, hk⟩ := eB F hk
 have ⟨c, F, hk⟩ := eA F hk
 have ⟨d, F, hk⟩ := eA F hk
 have ⟨a, F, hk⟩ := eI F hk
 exact bU (s0 := a) follows (fun _ h => by cases h) he F (fun s => [(7, .int .i64 s)]) (by kernel_rfl) (F.take 1) hk (fun Kn1 e h => dI .i64 (e 7) fun a => Kn1 a h) (fun Kn1 e h hk => by
  have F := Ag.nil (e := e)
  have ⟨a, F, hk⟩ := eI F hk
  exact ⟨a, F, hk⟩)
  (fun Kn1 => []) (fun Kn1 => [])
  (fun Kn1 => trivial)
  (fun Kn1 => trivial) (fun e s h Kn1 => by as_aux_lemma => kernel_rfl)⟩, trivial⟩ (by as_aux_lemma => kernel_rfl) hk
def hY (d : ByteArray) (i : Addr) (a f j b : Int) (Q : QT) (Kn1 : Int × Int → aB → Prop) (h : aB) : Prop :=
 jD d f fun g => aD Tryz.prog lw #[.int .u8 g] h fun v h3 => ∃ c, v = .bool c ∧ if c = true then (Kn1 (wrap .i64 (a - 8), wrap .i64 (b + 1)) h3) else (Kn1 (a, wrap .i64 (b + 1)) h3)
def mf (a : Int) (Q : QT) (h : aB) : Prop :=
 Q (.int .i64 (if (1 : Int) > a then (1 : Int) else a)) h
def lT (b : ByteArray) (c : Addr) (d : Int) (Q : QT) (f a : Int) (h : aB) (Kn1 : Int × Int → aB → Prop) : Prop :=
 if (decide (a < d)) = true then (jD b a fun g => bM g 256 (ldB h (c.add (g.toNat * 1)) fun j => if (!j) = true then (jD b a fun i => bM i 256 (st1 h (c.add (i.toNat * 1)) (.bool true) fun h2 => hY b c (wrap .i64 (f + 16)) a d a Q Kn1 h2)) else (hY b c f a d a Q Kn1 h))) else (mf f Q h)
def re (a : ByteArray) (Q : QT) (h : aB) : Prop :=
 if (a.toList == (⟨#[]⟩ : ByteArray).toList) = true then (Q (.int .i64 0) h) else (alV h (.cells #[.bool false, .bool false, .bool false, .bool false, .bool false, .bool false, .bool false, .bool false, .bool false, .bool false, .bool false, .bool false, .bool false, .bool false, .bool false, .bool false, .bool false, .bool false, .bool false, .bool false, .bool false, .bool false, .bool false, .bool false, .bool false, .bool false, .bool false, .bool false, .bool false, .bool false, .bool false, .bool false, .bool false, .bool false, .bool false, .bool false, .bool false, .bool false, .bool false, .bool false, .bool false, .bool false, .bool false, .bool false, .bool false, .bool false, .bool false, .bool false, .bool false, .bool false, .bool false, .bool false, .bool false, .bool false, .bool false, .bool false, .bool false, .bool false, .bool false, .bool false, .bool false, .bool false, .bool false, .bool false, .bool false, .bool false, .bool false, .bool false, .bool false, .bool false, .bool false, .bool false, .bool false, .bool false, .bool false, .bool false, .bool false, .bool false, .bool false, .bool false, .bool false, .bool false, .bool false, .bool false, .bool false, .bool false, .bool false, .bool false, .bool false, .bool false, .bool false, .bool false, .bool false, .bool false, .bool false, .bool false, .bool false, .bool false, .bool false, .bool false, .bool false, .bool false, .bool false, .bool false, .bool false, .bool false, .bool false, .bool false, .bool false, .bool false, .bool false, .bool false, .bool false, .bool false, .bool false, .bool false, .bool false, .bool false, .bool false, .bool false, .bool false, .bool false, .bool false, .bool false, .bool false, .bool false, .bool false, .bool false, .bool false, .bool false, .bool false, .bool false, .bool false, .bool false, .bool false, .bool false, .bool false, .bool false, .bool false, .bool false, .bool false, .bool false, .bool false, .bool false, .bool false, .bool false, .bool false, .bool false, .bool false, .bool false, .bool false, .bool false, .bool false, .bool false, .bool false, .bool false, .bool false, .bool false, .bool false, .bool false, .bool false, .bool false, .bool false, .bool false, .bool false, .bool false, .bool false, .bool false, .bool false, .bool false, .bool false, .bool false, .bool false, .bool false, .bool false, .bool false, .bool false, .bool false, .bool false, .bool false, .bool false, .bool false, .bool false, .bool false, .bool false, .bool false, .bool false, .bool false, .bool false, .bool false, .bool false, .bool false, .bool false, .bool false, .bool false, .bool false, .bool false, .bool false, .bool false, .bool false, .bool false, .bool false, .bool false, .bool false, .bool false, .bool false, .bool false, .bool false, .bool false, .bool false, .bool false, .bool false, .bool false, .bool false, .bool false, .bool false, .bool false, .bool false, .bool false, .bool false, .bool false, .bool false, .bool false, .bool false, .bool false, .bool false, .bool false, .bool false, .bool false, .bool false, .bool false, .bool false, .bool false, .bool false, .bool false, .bool false, .bool false, .bool false, .bool false, .bool false, .bool false, .bool false, .bool false, .bool false, .bool false, .bool false, .bool false, .bool false, .bool false, .bool false, .bool false, .bool false, .bool false, .bool false, .bool false, .bool false] rF) fun b h1 => aH (fun (s : Int × Int) h Kn => lT a b ((a.size : Nat) : Int) Q s.1 s.2 h Kn) (((a.size : Nat) : Int), 0) h1)
set_option maxRecDepth 100000 in
theorem xD (c : _) {Q : QT} {h : aB} (hk : re c Q h) : aD Tryz.prog jA #[.string c] h Q :=
 aW follows Tryz.func156 (Tryz.call156 _) rfl rfl [(30, fun e h => dI .i64 (e 4) fun a => mf a Q h)] [(14, fun e h => dS (e 0) fun c => dA (e 3) fun d => dI .i64 (e 11) fun f => dI .i64 (e 4) fun a => dI .i64 (e 12) fun b => aH (fun (s : Int × Int) h Kn => lT c d f Q s.1 s.2 h Kn) (a, b) h)]
 ⟨fun e h _ hk => by
 have F := Ag.nil (e := e)
 have ⟨a, F, hk⟩ := eI F hk
 exact fG F (by as_aux_lemma => kernel_rfl) hk, trivial⟩
 ⟨⟨by kernel_rfl, fun e h he hk => by
 have F := Ag.nil (e := e)
 have ⟨c, F, hk⟩ := eS F hk
 have ⟨d, F, hk⟩ := eA F hk
 have ⟨f, F, hk⟩ := eI F hk
 have ⟨a, F, hk⟩ := eI F hk
 have ⟨b, F, hk⟩ := eI F hk
 exact bU (s0 := (a, b)) follows (fun _ h => by cases h) he F (fun s => [(12, .int .i64 s.2), (4, .int .i64 s.1)]) (by kernel_rfl) (F.take 2) hk (fun Kn1 e h => dI .i64 (e 4) fun a => dI .i64 (e 12) fun b => Kn1 (a, b) h) (fun Kn1 e h hk => by
  have F := Ag.nil (e := e)
  have ⟨a, F, hk⟩ := eI F hk
  have ⟨b, F, hk⟩ := eI F hk
  exact ⟨(a, b), F, hk⟩)
  (fun Kn1 => [(24, fun e h => dS (e 0) fun c => dA (e 3) fun d => dI .i64 (e 4) fun a => dI .i64 (e 5) fun g => dI .i64 (e 11) fun f => dI .i64 (e 12) fun b => hY c d a g f b Q Kn1 h)]) (fun Kn1 => [])
  (fun Kn1 => ⟨fun e h _ hk => by
 have F := Ag.nil (e := e)
 have ⟨c, F, hk⟩ := eS F hk
 have ⟨d, F, hk⟩ := eA F hk
 have ⟨a, F, hk⟩ := eI F hk
 have ⟨g, F, hk⟩ := eI F hk
 have ⟨f, F, hk⟩ := eI F hk
 have ⟨b, F, hk⟩ := eI F hk
 exact fG F (by as_aux_lemma => kernel_rfl) hk, trivial⟩)
  (fun Kn1 => trivial) (fun e s h Kn1 => by as_aux_lemma => kernel_rfl)⟩, trivial⟩ (by as_aux_lemma => kernel_rfl) hk
def kW (a : ByteArray) (Q : QT) (h : aB) : Prop :=
 if (((a.size : Nat) : Int) == 0) = true then (Q (.string (⟨#[]⟩ : ByteArray)) h) else (yP Tryz.prog aM (.int .i64 ((a.size : Nat) : Int)) (.int .i64 ((a.size : Nat) : Int)) h fun v h1 => ∃ c b d, v = .slice c b d ∧ cQ Tryz.prog .copy #[aM, bZ] nY #[false, false] #[.slice c b d, .string a] h1 fun v h2 => ∃ g, v = .int .i64 g ∧ bM (0 : Int) b (nn c fun i => cQ Tryz.prog .unsafeString #[Jx, nY] bZ #[false, false] #[.pointer (some (i.add (((0 : Int)).toNat * 1))), .int .i64 ((b : Nat) : Int)] h2 fun v h3 => ∃ f, v = .string f ∧ Q (.string f) h3))
set_option maxRecDepth 100000 in
theorem qA (a : _) {Q : QT} {h : aB} (hk : kW a Q h) : aD Tryz.prog gY #[.string a] h Q :=
 aW follows Tryz.func157 (Tryz.call157 _) rfl rfl [] []
 trivial
 trivial (by as_aux_lemma => kernel_rfl) hk
def oO (a : Int) (Q : QT) (h : aB) : Prop :=
 if (decide (a ≥ 97)) = true then (if (decide (a ≤ 102)) = true then (Q (.int .i64 (wrap .i64 ((wrap .i64 (wrap .u8 (a - 97))) + 10))) h) else (if (decide (a ≥ 65)) = true then (if (decide (a ≤ 70)) = true then (Q (.int .i64 (wrap .i64 ((wrap .i64 (wrap .u8 (a - 65))) + 10))) h) else (Q (.int .i64 (-1)) h)) else (Q (.int .i64 (-1)) h))) else (if (decide (a ≥ 65)) = true then (if (decide (a ≤ 70)) = true then (Q (.int .i64 (wrap .i64 ((wrap .i64 (wrap .u8 (a - 65))) + 10))) h) else (Q (.int .i64 (-1)) h)) else (Q (.int .i64 (-1)) h))
def yi (a : Int) (Q : QT) (h : aB) : Prop :=
 if (decide (a ≥ 48)) = true then (if (decide (a ≤ 57)) = true then (Q (.int .i64 (wrap .i64 (wrap .u8 (a - 48)))) h) else (oO a Q h)) else (oO a Q h)
set_option maxRecDepth 100000 in
theorem Df (a : _) {Q : QT} {h : aB} (hk : yi a Q h) : aD Tryz.prog iZ #[.int .u8 a] h Q :=
 aW follows Tryz.func158 (Tryz.call158 _) rfl rfl [(9, fun e h => dI .u8 (e 0) fun a => oO a Q h)] []
 ⟨fun e h _ hk => by
 have F := Ag.nil (e := e)
 have ⟨a, F, hk⟩ := eI F hk
 exact fG F (by as_aux_lemma => kernel_rfl) hk, trivial⟩
 trivial (by as_aux_lemma => kernel_rfl) hk
def ju (f : ByteArray) (g : Option Addr) (i j : Nat) (k a : Int) (Q : QT) (Kn1 : (Option Addr) × Nat × Nat × Int × Int → aB → Prop) (h : aB) : Prop :=
 mV f (some k) (some a) fun l => alV h (.cells #[.string l] bZ) fun m h2 => cQ Tryz.prog .append #[eZ, eZ] eZ #[false, false] #[.slice g i j, .slice (some m) 1 1] h2 fun v h3 => ∃ b c d, v = .slice b c d ∧ Kn1 (b, c, d, wrap .i64 (a + 1), wrap .i64 (a + 1)) h3
def oE (b : ByteArray) (Q : QT) (c : Option Addr) (d f : Nat) (g a : Int) (h : aB) (Kn1 : (Option Addr) × Nat × Nat × Int × Int → aB → Prop) : Prop :=
 if (decide (a ≤ ((b.size : Nat) : Int))) = true then (if (a == ((b.size : Nat) : Int)) = true then (ju b c d f g a Q Kn1 h) else (jD b a fun i => if (i == 47) = true then (ju b c d f g a Q Kn1 h) else (Kn1 (c, d, f, g, wrap .i64 (a + 1)) h))) else (Q (.slice c d f) h)
def ur (a : ByteArray) (Q : QT) (h : aB) : Prop :=
 alV h (.cells #[] bZ) fun b h1 => aH (fun (s : (Option Addr) × Nat × Nat × Int × Int) h Kn => oE a Q s.1 s.2.1 s.2.2.1 s.2.2.2.1 s.2.2.2.2 h Kn) (some b, 0, 0, 0, 0) h1
set_option maxRecDepth 100000 in
theorem Ak (g : _) {Q : QT} {h : aB} (hk : ur g Q h) : aD Tryz.prog pb #[.string g] h Q :=
 aW follows Tryz.func159 (Tryz.call159 _) rfl rfl [] [(10, fun e h => dS (e 0) fun g => dL (e 3) fun a b c => dI .i64 (e 4) fun d => dI .i64 (e 5) fun f => aH (fun (s : (Option Addr) × Nat × Nat × Int × Int) h Kn => oE g Q s.1 s.2.1 s.2.2.1 s.2.2.2.1 s.2.2.2.2 h Kn) (a, b, c, d, f) h)]
 trivial
 ⟨⟨by kernel_rfl, fun e h he hk => by
 have F := Ag.nil (e := e)
 have ⟨g, F, hk⟩ := eS F hk
 have ⟨a, b, c, F, hk⟩ := eL F hk
 have ⟨d, F, hk⟩ := eI F hk
 have ⟨f, F, hk⟩ := eI F hk
 exact bU (s0 := (a, b, c, d, f)) follows (fun _ h => by cases h) he F (fun s => [(5, .int .i64 s.2.2.2.2), (4, .int .i64 s.2.2.2.1), (3, .slice s.1 s.2.1 s.2.2.1)]) (by kernel_rfl) (F.take 3) hk (fun Kn1 e h => dL (e 3) fun a b c => dI .i64 (e 4) fun d => dI .i64 (e 5) fun f => Kn1 (a, b, c, d, f) h) (fun Kn1 e h hk => by
  have F := Ag.nil (e := e)
  have ⟨a, b, c, F, hk⟩ := eL F hk
  have ⟨d, F, hk⟩ := eI F hk
  have ⟨f, F, hk⟩ := eI F hk
  exact ⟨(a, b, c, d, f), F, hk⟩)
  (fun Kn1 => [(17, fun e h => dS (e 0) fun g => dL (e 3) fun a b c => dI .i64 (e 4) fun d => dI .i64 (e 5) fun f => ju g a b c d f Q Kn1 h)]) (fun Kn1 => [])
  (fun Kn1 => ⟨fun e h _ hk => by
 have F := Ag.nil (e := e)
 have ⟨g, F, hk⟩ := eS F hk
 have ⟨a, b, c, F, hk⟩ := eL F hk
 have ⟨d, F, hk⟩ := eI F hk
 have ⟨f, F, hk⟩ := eI F hk
 exact fG F (by as_aux_lemma => kernel_rfl) hk, trivial⟩)
  (fun Kn1 => trivial) (fun e s h Kn1 => by as_aux_lemma => kernel_rfl)⟩, trivial⟩ (by as_aux_lemma => kernel_rfl) hk
def dH (d : Option Addr) (f p : Nat) (g : Value) (i : Int) (Q : QT) (a : Int) (h : aB) (Kn1 : Int → aB → Prop) : Prop :=
 if (decide (a < i)) = true then (bM a f (nn d fun b => ldB h (b.add (a.toNat * 6)) fun j => ldI h ((b.add (a.toNat * 6)).add 1) .u64 fun k => ldI h ((b.add (a.toNat * 6)).add 2) .u64 fun l => ldB h ((b.add (a.toNat * 6)).add 3) fun m => ldI h ((b.add (a.toNat * 6)).add 4) .u64 fun n => ldI h ((b.add (a.toNat * 6)).add 5) .u64 fun o => mL Tryz.prog g #[.agg #[.bool j, .int .u64 k, .int .u64 l, .bool m, .int .u64 n, .int .u64 o]] h fun v h1 => ∃ c, v = .bool c ∧ if c = true then (Q (.int .i64 a) h1) else (Kn1 (wrap .i64 (a + 1)) h1))) else (Q (.int .i64 (-1)) h)
def gW (b : Option Addr) (a c : Nat) (d : Value) (Q : QT) (h : aB) : Prop :=
 aH (fun (s : Int) h Kn => dH b a c d ((a : Nat) : Int) Q s h Kn) 0 h
set_option maxRecDepth 100000 in
theorem lX (b c d f : _) {Q : QT} {h : aB} (hk : gW b c d f Q h) : aD Tryz.prog gN #[.slice b c d, f] h Q :=
 aW follows Tryz.func160 (Tryz.call160 _) rfl rfl [] [(6, fun e h => dL (e 0) fun b c d => dV (e 1) fun f => dI .i64 (e 7) fun g => dI .i64 (e 8) fun a => aH (fun (s : Int) h Kn => dH b c d f g Q s h Kn) a h)]
 trivial
 ⟨⟨by kernel_rfl, fun e h he hk => by
 have F := Ag.nil (e := e)
 have ⟨b, c, d, F, hk⟩ := eL F hk
 have ⟨f, F, hk⟩ := eV F hk
 have ⟨g, F, hk⟩ := eI F hk
 have ⟨a, F, hk⟩ := eI F hk
 exact bU (s0 := a) follows (fun _ h => by cases h) he F (fun s => [(8, .int .i64 s)]) (by kernel_rfl) (F.take 1) hk (fun Kn1 e h => dI .i64 (e 8) fun a => Kn1 a h) (fun Kn1 e h hk => by
  have F := Ag.nil (e := e)
  have ⟨a, F, hk⟩ := eI F hk
  exact ⟨a, F, hk⟩)
  (fun Kn1 => []) (fun Kn1 => [])
  (fun Kn1 => trivial)
  (fun Kn1 => trivial) (fun e s h Kn1 => by as_aux_lemma => kernel_rfl)⟩, trivial⟩ (by as_aux_lemma => kernel_rfl) hk
def eE (d : Option Addr) (f l : Nat) (g : Value) (i : Int) (Q : QT) (a : Int) (h : aB) (Kn1 : Int → aB → Prop) : Prop :=
 if (decide (a < i)) = true then (bM a f (nn d fun b => ldI h (b.add (a.toNat * 2)) .i64 fun j => ldI h ((b.add (a.toNat * 2)).add 1) .i64 fun k => mL Tryz.prog g #[.agg #[.int .i64 j, .int .i64 k]] h fun v h1 => ∃ c, v = .bool c ∧ if c = true then (Q (.int .i64 a) h1) else (Kn1 (wrap .i64 (a + 1)) h1))) else (Q (.int .i64 (-1)) h)
def iu (b : Option Addr) (a c : Nat) (d : Value) (Q : QT) (h : aB) : Prop :=
 aH (fun (s : Int) h Kn => eE b a c d ((a : Nat) : Int) Q s h Kn) 0 h
set_option maxRecDepth 100000 in
theorem mE (b c d f : _) {Q : QT} {h : aB} (hk : iu b c d f Q h) : aD Tryz.prog hZ #[.slice b c d, f] h Q :=
 aW follows Tryz.func161 (Tryz.call161 _) rfl rfl [] [(6, fun e h => dL (e 0) fun b c d => dV (e 1) fun f => dI .i64 (e 7) fun g => dI .i64 (e 8) fun a => aH (fun (s : Int) h Kn => eE b c d f g Q s h Kn) a h)]
 trivial
 ⟨⟨by kernel_rfl, fun e h he hk => by
 have F := Ag.nil (e := e)
 have ⟨b, c, d, F, hk⟩ := eL F hk
 have ⟨f, F, hk⟩ := eV F hk
 have ⟨g, F, hk⟩ := eI F hk
 have ⟨a, F, hk⟩ := eI F hk
 exact bU (s0 := a) follows (fun _ h => by cases h) he F (fun s => [(8, .int .i64 s)]) (by kernel_rfl) (F.take 1) hk (fun Kn1 e h => dI .i64 (e 8) fun a => Kn1 a h) (fun Kn1 e h hk => by
  have F := Ag.nil (e := e)
  have ⟨a, F, hk⟩ := eI F hk
  exact ⟨a, F, hk⟩)
  (fun Kn1 => []) (fun Kn1 => [])
  (fun Kn1 => trivial)
  (fun Kn1 => trivial) (fun e s h Kn1 => by as_aux_lemma => kernel_rfl)⟩, trivial⟩ (by as_aux_lemma => kernel_rfl) hk
def zo (b : Bool) (c d : Int) (Q : QT) (h : aB) : Prop :=
 alV h (.cells #[.bool b, .int .u64 c, .int .u64 d] cN) fun a h1 => ldB h1 a fun f => if f = true then (Q (.bool true) h1) else (ldI h1 (a.add 1) .u64 fun g => if (g == 0) = true then (ldI h1 (a.add 2) .u64 fun i => Q (.bool (decide (i < 4294967296))) h1) else (Q (.bool false) h1))
set_option maxRecDepth 100000 in
theorem EO (a b c : _) {Q : QT} {h : aB} (hk : zo a b c Q h) : aD Tryz.prog mK #[.agg #[.bool a, .int .u64 b, .int .u64 c]] h Q :=
 aW follows Tryz.func168 (Tryz.call168 _) rfl rfl [] []
 trivial
 trivial (by as_aux_lemma => kernel_rfl) hk
def zp (f : Bool) (g i : Int) (j : Bool) (k l : Int) (Q : QT) (h : aB) : Prop :=
 alV h (.cells #[.bool f, .int .u64 g, .int .u64 i, .bool j, .int .u64 k, .int .u64 l] lN) fun a h1 => ldB h1 a fun m => ldI h1 (a.add 1) .u64 fun n => ldI h1 (a.add 2) .u64 fun o => aD Tryz.prog mK #[.agg #[.bool m, .int .u64 n, .int .u64 o]] h1 fun v h2 => ∃ b, v = .bool b ∧ if b = true then (ldB h2 (a.add 3) fun p => ldI h2 (a.add 4) .u64 fun q => ldI h2 (a.add 5) .u64 fun r => aD Tryz.prog mK #[.agg #[.bool p, .int .u64 q, .int .u64 r]] h2 fun v h3 => ∃ c, v = .bool c ∧ if c = true then (ldB h3 a fun s => ldB h3 (a.add 3) fun t => if (s == t) = true then (ldB h3 (a.add 3) fun u => ldI h3 (a.add 4) .u64 fun w => ldI h3 (a.add 5) .u64 fun x => ldB h3 a fun y => ldI h3 (a.add 1) .u64 fun z => ldI h3 (a.add 2) .u64 fun A => aD Tryz.prog kM #[.agg #[.bool u, .int .u64 w, .int .u64 x], .agg #[.bool y, .int .u64 z, .int .u64 A]] h3 fun v h4 => ∃ d, v = .bool d ∧ Q (.bool (!d)) h4) else (Q (.bool false) h3)) else (Q (.bool false) h3)) else (Q (.bool false) h2)
set_option maxRecDepth 100000 in
theorem ET (a b c d f g : _) {Q : QT} {h : aB} (hk : zp a b c d f g Q h) : aD Tryz.prog tv #[.agg #[.bool a, .int .u64 b, .int .u64 c, .bool d, .int .u64 f, .int .u64 g]] h Q :=
 aW follows Tryz.func169 (Tryz.call169 _) rfl rfl [] []
 trivial
 trivial (by as_aux_lemma => kernel_rfl) hk
def wj (c : Bool) (d f : Int) (g : Bool) (i j : Int) (Q : QT) (h : aB) : Prop :=
 alV h (.cells #[.bool c, .int .u64 d, .int .u64 f] cN) fun b h1 => alV h1 (.cells #[.bool g, .int .u64 i, .int .u64 j] cN) fun a h2 => ldB h2 b fun k => ldB h2 a fun l => if (!(k == l)) = true then (ldB h2 a fun m => Q (.bool m) h2) else (ldI h2 (b.add 1) .u64 fun n => ldI h2 (a.add 1) .u64 fun o => if (n != o) = true then (ldI h2 (b.add 1) .u64 fun p => ldI h2 (a.add 1) .u64 fun q => Q (.bool (decide (p < q))) h2) else (ldI h2 (b.add 2) .u64 fun r => ldI h2 (a.add 2) .u64 fun s => Q (.bool (decide (r < s))) h2))
set_option maxRecDepth 100000 in
theorem CG (a b c d f g : _) {Q : QT} {h : aB} (hk : wj a b c d f g Q h) : aD Tryz.prog kM #[.agg #[.bool a, .int .u64 b, .int .u64 c], .agg #[.bool d, .int .u64 f, .int .u64 g]] h Q :=
 aW follows Tryz.func170 (Tryz.call170 _) rfl rfl [] []
 trivial
 trivial (by as_aux_lemma => kernel_rfl) hk
def wu (b : ByteArray) (c d f : Bool) (g i : Int) (j : Bool) (Q : QT) (h : aB) : Prop :=
 alV h (.cells #[.string b, .bool c, .bool d, .bool f, .int .i64 g, .int .i64 i, .bool j] eQ) fun a h1 => ldB h1 (a.add 2) fun k => if (!k) = true then (ldS h1 a fun l => Q (.bool (!(l.toList == (⟨#[]⟩ : ByteArray).toList))) h1) else (Q (.bool false) h1)
set_option maxRecDepth 100000 in
theorem CR (a b c d f g i : _) {Q : QT} {h : aB} (hk : wu a b c d f g i Q h) : aD Tryz.prog qI #[.agg #[.string a, .bool b, .bool c, .bool d, .int .i64 f, .int .i64 g, .bool i]] h Q :=
 aW follows Tryz.func171 (Tryz.call171 _) rfl rfl [] []
 trivial
 trivial (by as_aux_lemma => kernel_rfl) hk
def mb (b : ByteArray) (c : Int) (g : Option Addr) (i l : Nat) (a : Int) (Q : QT) (Kn1 : Int × Int → aB → Prop) (h : aB) : Prop :=
 jD b a fun d => bM d i (nn g fun j => st1 h (j.add (d.toNat * 1)) (.bool true) fun h2 => jD b a fun k => aD Tryz.prog qP #[.int .u8 k] h2 fun v h3 => ∃ f, v = .bool f ∧ if f = true then (Kn1 (wrap .i64 (c - 8), wrap .i64 (a + 1)) h3) else (Kn1 (c, wrap .i64 (a + 1)) h3))
def rC (a : Int) (Q : QT) (h : aB) : Prop :=
 Q (.int .i64 (if (1 : Int) > a then (1 : Int) else a)) h
def rW (a : ByteArray) (c : Option Addr) (d g : Nat) (Q : QT) (f b : Int) (h : aB) (Kn1 : Int × Int → aB → Prop) : Prop :=
 if (decide (b < ((a.size : Nat) : Int))) = true then (jD a b fun i => bM i d (nn c fun j => ldB h (j.add (i.toNat * 1)) fun k => if (!k) = true then (mb a (wrap .i64 (f + 16)) c d g b Q Kn1 h) else (mb a f c d g b Q Kn1 h))) else (rC f Q h)
def xU (a : ByteArray) (Q : QT) (h : aB) : Prop :=
 if (a.toList == (⟨#[]⟩ : ByteArray).toList) = true then (Q (.int .i64 0) h) else (yP Tryz.prog rx (.int .i64 256) (.int .i64 256) h fun v h1 => ∃ b c d, v = .slice b c d ∧ aH (fun (s : Int × Int) h Kn => rW a b c d Q s.1 s.2 h Kn) (((a.size : Nat) : Int), 0) h1)
set_option maxRecDepth 100000 in
theorem Dk (c : _) {Q : QT} {h : aB} (hk : xU c Q h) : aD Tryz.prog jQ #[.string c] h Q :=
 aW follows Tryz.func172 (Tryz.call172 _) rfl rfl [(28, fun e h => dI .i64 (e 3) fun a => rC a Q h)] [(14, fun e h => dS (e 0) fun c => dL (e 4) fun d f g => dI .i64 (e 3) fun a => dI .i64 (e 5) fun b => aH (fun (s : Int × Int) h Kn => rW c d f g Q s.1 s.2 h Kn) (a, b) h)]
 ⟨fun e h _ hk => by
 have F := Ag.nil (e := e)
 have ⟨a, F, hk⟩ := eI F hk
 exact fG F (by as_aux_lemma => kernel_rfl) hk, trivial⟩
 ⟨⟨by kernel_rfl, fun e h he hk => by
 have F := Ag.nil (e := e)
 have ⟨c, F, hk⟩ := eS F hk
 have ⟨d, f, g, F, hk⟩ := eL F hk
 have ⟨a, F, hk⟩ := eI F hk
 have ⟨b, F, hk⟩ := eI F hk
 exact bU (s0 := (a, b)) follows (fun _ h => by cases h) he F (fun s => [(5, .int .i64 s.2), (3, .int .i64 s.1)]) (by kernel_rfl) (F.take 2) hk (fun Kn1 e h => dI .i64 (e 3) fun a => dI .i64 (e 5) fun b => Kn1 (a, b) h) (fun Kn1 e h hk => by
  have F := Ag.nil (e := e)
  have ⟨a, F, hk⟩ := eI F hk
  have ⟨b, F, hk⟩ := eI F hk
  exact ⟨(a, b), F, hk⟩)
  (fun Kn1 => [(22, fun e h => dS (e 0) fun c => dI .i64 (e 3) fun a => dL (e 4) fun d f g => dI .i64 (e 5) fun b => mb c a d f g b Q Kn1 h)]) (fun Kn1 => [])
  (fun Kn1 => ⟨fun e h _ hk => by
 have F := Ag.nil (e := e)
 have ⟨c, F, hk⟩ := eS F hk
 have ⟨a, F, hk⟩ := eI F hk
 have ⟨d, f, g, F, hk⟩ := eL F hk
 have ⟨b, F, hk⟩ := eI F hk
 exact fG F (by as_aux_lemma => kernel_rfl) hk, trivial⟩)
  (fun Kn1 => trivial) (fun e s h Kn1 => by as_aux_lemma => kernel_rfl)⟩, trivial⟩ (by as_aux_lemma => kernel_rfl) hk
def kv (a : Int) (Q : QT) (h : aB) : Prop :=
 if (decide (97 ≤ a)) = true then (if (decide (a ≤ 102)) = true then (Q (.int .i64 (wrap .i64 ((wrap .i64 (wrap .u8 (a - 97))) + 10))) h) else (if (decide (65 ≤ a)) = true then (if (decide (a ≤ 70)) = true then (Q (.int .i64 (wrap .i64 ((wrap .i64 (wrap .u8 (a - 65))) + 10))) h) else (Q (.int .i64 (-1)) h)) else (Q (.int .i64 (-1)) h))) else (if (decide (65 ≤ a)) = true then (if (decide (a ≤ 70)) = true then (Q (.int .i64 (wrap .i64 ((wrap .i64 (wrap .u8 (a - 65))) + 10))) h) else (Q (.int .i64 (-1)) h)) else (Q (.int .i64 (-1)) h))
def sL (a : Int) (Q : QT) (h : aB) : Prop :=
 if (decide (48 ≤ a)) = true then (if (decide (a ≤ 57)) = true then (Q (.int .i64 (wrap .i64 (wrap .u8 (a - 48)))) h) else (kv a Q h)) else (kv a Q h)
set_option maxRecDepth 100000 in
theorem zJ (a : _) {Q : QT} {h : aB} (hk : sL a Q h) : aD Tryz.prog iW #[.int .u8 a] h Q :=
 aW follows Tryz.func174 (Tryz.call174 _) rfl rfl [(9, fun e h => dI .u8 (e 0) fun a => kv a Q h)] []
 ⟨fun e h _ hk => by
 have F := Ag.nil (e := e)
 have ⟨a, F, hk⟩ := eI F hk
 exact fG F (by as_aux_lemma => kernel_rfl) hk, trivial⟩
 trivial (by as_aux_lemma => kernel_rfl) hk
def qW (b : ByteArray) (c : Int) (Q : QT) (h : aB) : Prop :=
 aD Tryz.prog je #[.string b, .int .u8 c] h fun v h1 => ∃ a, v = .int .i64 a ∧ Q (.int .i64 a) h1
set_option maxRecDepth 100000 in
theorem xv (a b : _) {Q : QT} {h : aB} (hk : qW a b Q h) : aD Tryz.prog jp #[.string a, .int .u8 b] h Q :=
 aW follows Tryz.func175 (Tryz.call175 _) rfl rfl [] []
 trivial
 trivial (by as_aux_lemma => kernel_rfl) hk
def vD (d f : ByteArray) (Q : QT) (h : aB) : Prop :=
 aD Tryz.prog xo #[.string d, .string f, .int .i64 0, .int .i64 (-1)] h fun v h1 => ∃ a b c, v = .slice a b c ∧ Q (.slice a b c) h1
set_option maxRecDepth 100000 in
theorem Bi (a b : _) {Q : QT} {h : aB} (hk : vD a b Q h) : aD Tryz.prog pT #[.string a, .string b] h Q :=
 aW follows Tryz.func176 (Tryz.call176 _) rfl rfl [] []
 trivial
 trivial (by as_aux_lemma => kernel_rfl) hk
def qX (b c : ByteArray) (Q : QT) (h : aB) : Prop :=
 aD Tryz.prog fC #[.string b, .string c] h fun v h1 => ∃ a, v = .bool a ∧ Q (.bool a) h1
set_option maxRecDepth 100000 in
theorem xr (a b : _) {Q : QT} {h : aB} (hk : qX a b Q h) : aD Tryz.prog md #[.string a, .string b] h Q :=
 aW follows Tryz.func177 (Tryz.call177 _) rfl rfl [] []
 trivial
 trivial (by as_aux_lemma => kernel_rfl) hk
def vE (d : Option Addr) (f g : Nat) (i : ByteArray) (a : Int) (b : ByteArray) (j : Option Addr) (k l : Nat) (m c : Int) (Q : QT) (Kn3 : Int × Int → aB → Prop) (h : aB) : Prop :=
 Kn3 (wrap .i64 (a + ((b.size : Nat) : Int)), wrap .i64 (c + 1)) h
def vt (b : Addr) (Q : QT) (h : aB) : Prop :=
 aD Tryz.prog sB #[.pointer (some b)] h fun v h6 => ∃ a, v = .string a ∧ Q (.string a) h6
def vx (c : ByteArray) (b : Addr) (d : Option Addr) (f o : Nat) (g : Int) (Q : QT) (a : Int) (h : aB) (Kn6 : Int → aB → Prop) : Prop :=
 if (decide (a < g)) = true then (bM a f (nn d fun i => ldS h (i.add (a.toNat * 1)) fun j => aD Tryz.prog gH #[.pointer (some b), .string c] h fun v h4 => ∃ k l, v = .tuple #[.int .i64 k, l] ∧ aD Tryz.prog gH #[.pointer (some b), .string j] h4 fun v h5 => ∃ m n, v = .tuple #[.int .i64 m, n] ∧ Kn6 (wrap .i64 (a + 1)) h5)) else (vt b Q h)
def vG (b : Option Addr) (c f : Nat) (g : ByteArray) (i : Int) (Q : QT) (h : aB) : Prop :=
 alV h (.cells #[.pointer none, .slice none 0 0] yY) fun a h1 => aD Tryz.prog ul #[.pointer (some a), .int .i64 i] h1 fun v h2 => v = .tuple #[] ∧ bM (0 : Int) c (nn b fun j => ldS h2 (j.add (((0 : Int)).toNat * 1)) fun k => aD Tryz.prog gH #[.pointer (some a), .string k] h2 fun v h3 => ∃ l m, v = .tuple #[.int .i64 l, m] ∧ fV 1 b c f (some (1 : Int)) none none fun n d o => aH (fun (s : Int) h Kn => vx g a n d o ((d : Nat) : Int) Q s h Kn) 0 h3)
def vL (c : Option Addr) (d f : Nat) (g : ByteArray) (i : Option Addr) (j m : Nat) (k : Int) (Q : QT) (b a : Int) (h : aB) (Kn3 : Int × Int → aB → Prop) : Prop :=
 if (decide (a < k)) = true then (bM a j (nn i fun n => ldS h (n.add (a.toNat * 1)) fun l => if (decide (((l.size : Nat) : Int) > (wrap .i64 (9223372036854775807 - b)))) = true then (False) else (vE c d f g b l i j m k a Q Kn3 h))) else (vG c d f g b Q h)
def qE (b : Option Addr) (a c : Nat) (d : ByteArray) (f : Int) (Q : QT) (h : aB) : Prop :=
 aH (fun (s : Int × Int) h Kn => vL b a c d b a c ((a : Nat) : Int) Q s.1 s.2 h Kn) (f, 0) h
def vH (c : Option Addr) (a d : Nat) (b : ByteArray) (f : Int) (Q : QT) (h : aB) : Prop :=
 qE c a d b (wrap .i64 (f + (wrap .i64 (((b.size : Nat) : Int) * (wrap .i64 (((a : Nat) : Int) - 1)))))) Q h
def wM (c : Option Addr) (a d : Nat) (b : ByteArray) (Q : QT) (h : aB) : Prop :=
 if (((a : Nat) : Int) == 0) = true then (Q (.string (⟨#[]⟩ : ByteArray)) h) else (if (((a : Nat) : Int) == 1) = true then (bM (0 : Int) a (nn c fun f => ldS h (f.add (((0 : Int)).toNat * 1)) fun g => Q (.string g) h)) else (if (decide (((b.size : Nat) : Int) > 0)) = true then ((wrap .i64 (((a : Nat) : Int) - 1)) ≠ 0 ∧ if (decide (((b.size : Nat) : Int) ≥ (wrap .i64 (Int.tdiv 9223372036854775807 (wrap .i64 (((a : Nat) : Int) - 1)))))) = true then (False) else (vH c a d b 0 Q h)) else (qE c a d b 0 Q h)))
set_option maxRecDepth 100000 in
theorem Cy (c d f a : _) {Q : QT} {h : aB} (hk : wM c d f a Q h) : aD Tryz.prog mY #[.slice c d f, .string a] h Q :=
 aW follows Tryz.func178 (Tryz.call178 _) rfl rfl [(22, fun e h => dL (e 0) fun c d f => dS (e 1) fun a => dI .i64 (e 5) fun b => vH c d f a b Q h), (24, fun e h => dL (e 0) fun c d f => dS (e 1) fun a => dI .i64 (e 5) fun b => qE c d f a b Q h), (38, fun e h => dL (e 0) fun c d f => dS (e 1) fun a => dI .i64 (e 5) fun b => vG c d f a b Q h), (56, fun e h => dA (e 8) fun j => vt j Q h)] [(26, fun e h => dL (e 0) fun c d f => dS (e 1) fun a => dL (e 39) fun k l m => dI .i64 (e 40) fun n => dI .i64 (e 5) fun b => dI .i64 (e 41) fun g => aH (fun (s : Int × Int) h Kn => vL c d f a k l m n Q s.1 s.2 h Kn) (b, g) h), (46, fun e h => dS (e 1) fun a => dA (e 8) fun j => dL (e 63) fun o p q => dI .i64 (e 64) fun r => dI .i64 (e 65) fun i => aH (fun (s : Int) h Kn => vx a j o p q r Q s h Kn) i h)]
 ⟨fun e h _ hk => by
 have F := Ag.nil (e := e)
 have ⟨c, d, f, F, hk⟩ := eL F hk
 have ⟨a, F, hk⟩ := eS F hk
 have ⟨b, F, hk⟩ := eI F hk
 exact fG F (by as_aux_lemma => kernel_rfl) hk, fun e h _ hk => by
 have F := Ag.nil (e := e)
 have ⟨c, d, f, F, hk⟩ := eL F hk
 have ⟨a, F, hk⟩ := eS F hk
 have ⟨b, F, hk⟩ := eI F hk
 exact fG F (by as_aux_lemma => kernel_rfl) hk, fun e h _ hk => by
 have F := Ag.nil (e := e)
 have ⟨c, d, f, F, hk⟩ := eL F hk
 have ⟨a, F, hk⟩ := eS F hk
 have ⟨b, F, hk⟩ := eI F hk
 exact fG F (by as_aux_lemma => kernel_rfl) hk, fun e h _ hk => by
 have F := Ag.nil (e := e)
 have ⟨j, F, hk⟩ := eA F hk
 exact fG F (by as_aux_lemma => kernel_rfl) hk, trivial⟩
 ⟨⟨by kernel_rfl, fun e h he hk => by
 have F := Ag.nil (e := e)
 have ⟨c, d, f, F, hk⟩ := eL F hk
 have ⟨a, F, hk⟩ := eS F hk
 have ⟨k, l, m, F, hk⟩ := eL F hk
 have ⟨n, F, hk⟩ := eI F hk
 have ⟨b, F, hk⟩ := eI F hk
 have ⟨g, F, hk⟩ := eI F hk
 exact bU (s0 := (b, g)) follows (fun _ h => by cases h) he F (fun s => [(41, .int .i64 s.2), (5, .int .i64 s.1)]) (by kernel_rfl) (F.take 2) hk (fun Kn3 e h => dI .i64 (e 5) fun b => dI .i64 (e 41) fun g => Kn3 (b, g) h) (fun Kn3 e h hk => by
  have F := Ag.nil (e := e)
  have ⟨b, F, hk⟩ := eI F hk
  have ⟨g, F, hk⟩ := eI F hk
  exact ⟨(b, g), F, hk⟩)
  (fun Kn3 => [(34, fun e h => dL (e 0) fun c d f => dS (e 1) fun a => dI .i64 (e 5) fun b => dS (e 7) fun t => dL (e 39) fun k l m => dI .i64 (e 40) fun n => dI .i64 (e 41) fun g => vE c d f a b t k l m n g Q Kn3 h)]) (fun Kn3 => [])
  (fun Kn3 => ⟨fun e h _ hk => by
 have F := Ag.nil (e := e)
 have ⟨c, d, f, F, hk⟩ := eL F hk
 have ⟨a, F, hk⟩ := eS F hk
 have ⟨b, F, hk⟩ := eI F hk
 have ⟨t, F, hk⟩ := eS F hk
 have ⟨k, l, m, F, hk⟩ := eL F hk
 have ⟨n, F, hk⟩ := eI F hk
 have ⟨g, F, hk⟩ := eI F hk
 exact fG F (by as_aux_lemma => kernel_rfl) hk, trivial⟩)
  (fun Kn3 => trivial) (fun e s h Kn3 => by as_aux_lemma => kernel_rfl)⟩, ⟨by kernel_rfl, fun e h he hk => by
 have F := Ag.nil (e := e)
 have ⟨a, F, hk⟩ := eS F hk
 have ⟨j, F, hk⟩ := eA F hk
 have ⟨o, p, q, F, hk⟩ := eL F hk
 have ⟨r, F, hk⟩ := eI F hk
 have ⟨i, F, hk⟩ := eI F hk
 exact bU (s0 := i) follows (fun _ h => by cases h) he F (fun s => [(65, .int .i64 s)]) (by kernel_rfl) (F.take 1) hk (fun Kn6 e h => dI .i64 (e 65) fun i => Kn6 i h) (fun Kn6 e h hk => by
  have F := Ag.nil (e := e)
  have ⟨i, F, hk⟩ := eI F hk
  exact ⟨i, F, hk⟩)
  (fun Kn6 => []) (fun Kn6 => [])
  (fun Kn6 => trivial)
  (fun Kn6 => trivial) (fun e s h Kn6 => by as_aux_lemma => kernel_rfl)⟩, trivial⟩ (by as_aux_lemma => kernel_rfl) hk
def xX (a : Int) (Q : QT) (h : aB) : Prop :=
 if (decide (a ≥ 48)) = true then (Q (.bool (decide (a ≤ 57))) h) else (Q (.bool false) h)
set_option maxRecDepth 100000 in
theorem Di (a : _) {Q : QT} {h : aB} (hk : xX a Q h) : aD Tryz.prog sb #[.int .u8 a] h Q :=
 aW follows Tryz.func179 (Tryz.call179 _) rfl rfl [] []
 trivial
 trivial (by as_aux_lemma => kernel_rfl) hk
def A0 (c : Bool) (d f a : Int) (Q : QT) (h : aB) : Prop :=
 alV h (.cells #[.bool c, .int .u64 d, .int .u64 f] cN) fun b h1 => ldB h1 b fun g => if (!g) = true then (ldI h1 (b.add 2) .u64 fun i => 0 ≤ (wrap .u64 (wrap .i64 (31 - a))) ∧ Q (.bool ((wrap .u64 (BitVec.toNat (BitVec.ofInt (IntKind.bits .u64) (Int.fdiv i (2 ^ (min (Int.toNat (wrap .u64 (wrap .i64 (31 - a)))) (IntKind.bits .u64)))) &&& BitVec.ofInt (IntKind.bits .u64) 1) : Int)) == 1)) h1) else (if (decide (a < 64)) = true then (ldI h1 (b.add 1) .u64 fun j => 0 ≤ (wrap .u64 (wrap .i64 (63 - a))) ∧ Q (.bool ((wrap .u64 (BitVec.toNat (BitVec.ofInt (IntKind.bits .u64) (Int.fdiv j (2 ^ (min (Int.toNat (wrap .u64 (wrap .i64 (63 - a)))) (IntKind.bits .u64)))) &&& BitVec.ofInt (IntKind.bits .u64) 1) : Int)) == 1)) h1) else (ldI h1 (b.add 2) .u64 fun k => 0 ≤ (wrap .u64 (wrap .i64 (127 - a))) ∧ Q (.bool ((wrap .u64 (BitVec.toNat (BitVec.ofInt (IntKind.bits .u64) (Int.fdiv k (2 ^ (min (Int.toNat (wrap .u64 (wrap .i64 (127 - a)))) (IntKind.bits .u64)))) &&& BitVec.ofInt (IntKind.bits .u64) 1) : Int)) == 1)) h1))
set_option maxRecDepth 100000 in
theorem E3 (a b c d : _) {Q : QT} {h : aB} (hk : A0 a b c d Q h) : aD Tryz.prog vg #[.agg #[.bool a, .int .u64 b, .int .u64 c], .int .i64 d] h Q :=
 aW follows Tryz.func180 (Tryz.call180 _) rfl rfl [] []
 trivial
 trivial (by as_aux_lemma => kernel_rfl) hk
def qp (a : Int) (Q : QT) (h : aB) : Prop :=
 if (decide (a ≥ 97)) = true then (if (decide (a ≤ 122)) = true then (Q (.bool true) h) else (if (decide (a ≥ 65)) = true then (if (decide (a ≤ 90)) = true then (Q (.bool true) h) else (if (decide (a ≥ 48)) = true then (if (decide (a ≤ 57)) = true then (Q (.bool true) h) else (Q (.bool (a == 32)) h)) else (Q (.bool (a == 32)) h))) else (if (decide (a ≥ 48)) = true then (if (decide (a ≤ 57)) = true then (Q (.bool true) h) else (Q (.bool (a == 32)) h)) else (Q (.bool (a == 32)) h)))) else (if (decide (a ≥ 65)) = true then (if (decide (a ≤ 90)) = true then (Q (.bool true) h) else (if (decide (a ≥ 48)) = true then (if (decide (a ≤ 57)) = true then (Q (.bool true) h) else (Q (.bool (a == 32)) h)) else (Q (.bool (a == 32)) h))) else (if (decide (a ≥ 48)) = true then (if (decide (a ≤ 57)) = true then (Q (.bool true) h) else (Q (.bool (a == 32)) h)) else (Q (.bool (a == 32)) h)))
set_option maxRecDepth 100000 in
theorem wt (a : _) {Q : QT} {h : aB} (hk : qp a Q h) : aD Tryz.prog lw #[.int .u8 a] h Q :=
 aW follows Tryz.func181 (Tryz.call181 _) rfl rfl [] []
 trivial
 trivial (by as_aux_lemma => kernel_rfl) hk
def wc (a : Int) (Q : QT) (h : aB) : Prop :=
 if (decide (a ≥ 97)) = true then (if (decide (a ≤ 122)) = true then (Q (.bool true) h) else (if (decide (a ≥ 65)) = true then (if (decide (a ≤ 90)) = true then (Q (.bool true) h) else (if (decide (a ≥ 48)) = true then (if (decide (a ≤ 57)) = true then (Q (.bool true) h) else (Q (.bool (a == 32)) h)) else (Q (.bool (a == 32)) h))) else (if (decide (a ≥ 48)) = true then (if (decide (a ≤ 57)) = true then (Q (.bool true) h) else (Q (.bool (a == 32)) h)) else (Q (.bool (a == 32)) h)))) else (if (decide (a ≥ 65)) = true then (if (decide (a ≤ 90)) = true then (Q (.bool true) h) else (if (decide (a ≥ 48)) = true then (if (decide (a ≤ 57)) = true then (Q (.bool true) h) else (Q (.bool (a == 32)) h)) else (Q (.bool (a == 32)) h))) else (if (decide (a ≥ 48)) = true then (if (decide (a ≤ 57)) = true then (Q (.bool true) h) else (Q (.bool (a == 32)) h)) else (Q (.bool (a == 32)) h)))
set_option maxRecDepth 100000 in
theorem CD (a : _) {Q : QT} {h : aB} (hk : wc a Q h) : aD Tryz.prog qP #[.int .u8 a] h Q :=
 aW follows Tryz.func183 (Tryz.call183 _) rfl rfl [] []
 trivial
 trivial (by as_aux_lemma => kernel_rfl) hk
def jy (b : ByteArray) (c : Int) (Q : QT) (h : aB) : Prop :=
 aD Tryz.prog iL #[.string b, .int .u8 c] h fun v h1 => ∃ a, v = .int .i64 a ∧ Q (.int .i64 a) h1
set_option maxRecDepth 100000 in
theorem oQ (a b : _) {Q : QT} {h : aB} (hk : jy a b Q h) : aD Tryz.prog je #[.string a, .int .u8 b] h Q :=
 aW follows Tryz.func184 (Tryz.call184 _) rfl rfl [] []
 trivial
 trivial (by as_aux_lemma => kernel_rfl) hk
def jn (b a : ByteArray) (Q : QT) (h : aB) : Prop :=
 if (decide (((b.size : Nat) : Int) ≥ ((a.size : Nat) : Int))) = true then (mV b none (some ((a.size : Nat) : Int)) fun c => Q (.bool (c.toList == a.toList)) h) else (Q (.bool false) h)
set_option maxRecDepth 100000 in
theorem n8 (a b : _) {Q : QT} {h : aB} (hk : jn a b Q h) : aD Tryz.prog fC #[.string a, .string b] h Q :=
 aW follows Tryz.func186 (Tryz.call186 _) rfl rfl [] []
 trivial
 trivial (by as_aux_lemma => kernel_rfl) hk
end Go.Proofs.YtjmfpeiidlpngaaGreatDoor
namespace Go.Proofs.YtjmfpeiidlpngaaGreatDoor.Au
set_option linter.unusedSimpArgs false
set_option linter.unusedVariables false
set_option maxRecDepth 20000
abbrev Nm := List UInt8
def ls (sg : List Nm) : Nm → Nm
 | [] => []
 | c :: w => if c :: w ∈ sg then c :: w else ls sg w
structure Pre (sg : List Nm) : Prop where
 nil : [] ∈ sg
 pre : ∀ w c, w ++ [c] ∈ sg → w ∈ sg
section
variable {sg : List Nm}
theorem At (P : Pre sg) : ∀ w, ls sg w ∈ sg
 | [] => P.nil
 | c :: w => by
  unfold ls; split
  ·assumption
  ·exact At P w
theorem wR : ∀ w, ls sg w <:+ w
 | [] => List.suffix_refl _
 | c :: w => by
  unfold ls; split
  ·exact List.suffix_refl _
  ·exact (wR w).trans (List.suffix_cons c w)
theorem Ao : ∀ (w : Nm) {v : Nm}, v <:+ w → v ∈ sg → v <:+ ls sg w
 | [], v, h, _ => by rw [List.suffix_nil.1 h]; exact List.nil_suffix
 | c :: w, v, h, hv => by
  unfold ls; split
  ·exact h
  ·rename_i hn
   rcases List.suffix_cons_iff.1 h with h | h
   ·subst h; exact absurd hv hn
   ·exact Ao w h hv
theorem NM {a b : Nm} (h1 : a <:+ b) (h2 : b <:+ a) : a = b := by
 have := h1.length_le; have := h2.length_le
 exact h1.eq_of_length (by omega)
theorem Nl (P : Pre sg) {w v : Nm} (h1 : v ∈ sg) (h2 : v <:+ w) (h3 : ∀ u, u <:+ w → u ∈ sg → u <:+ v) : v = ls sg w :=
 NM (Ao w h2 h1) (h3 _ (wR w) (At P w))
theorem HO {w : Nm} (h : w ∈ sg) : ls sg w = w := by
 cases w with
 | nil => rfl
 | cons c w => unfold ls; rw [if_pos h]
theorem KR {v w : Nm} {c : UInt8} (h : v <:+ w ++ [c]) : v = [] ∨ ∃ u, v = u ++ [c] ∧ u <:+ w := by
 rcases List.eq_nil_or_concat v with rfl | ⟨u, d, rfl⟩
 ·exact .inl rfl
 ·right
  rw [List.concat_eq_append] at h ⊢
  obtain ⟨t, ht⟩ := h
  rw [← List.append_assoc] at ht
  obtain ⟨h1, h2⟩ := List.append_inj' ht rfl
  cases h2
  exact ⟨u, rfl, t, h1⟩
theorem Fa {v w : Nm} {c : UInt8} (h : v <:+ w) : v ++ [c] <:+ w ++ [c] := by
 obtain ⟨t, rfl⟩ := h; exact ⟨t, by rw [List.append_assoc]⟩
theorem HS (P : Pre sg) (w : Nm) (c : UInt8) : ls sg (w ++ [c]) = ls sg (ls sg w ++ [c]) := by
 refine (Nl P (At P _) ((wR _).trans (Fa (wR w))) fun u h1 h2 => ?_).symm
 rcases KR h1 with rfl | ⟨v, rfl, hv⟩
 ·exact List.nil_suffix
 ·exact Ao _ (Fa (Ao w hv (P.pre _ _ h2))) h2
def fl (sg : List Nm) (w : Nm) : Nm := ls sg w.tail
theorem NH (P : Pre sg) (w : Nm) : fl sg w ∈ sg := At P _
theorem Ai (w : Nm) (h : w ≠ []) : (fl sg w).length < w.length := by
 have h1 := (wR (sg := sg) w.tail).length_le
 have h2 := List.length_pos_iff.2 h
 unfold fl
 rw [List.length_tail] at h1; omega
theorem Gn (P : Pre sg) (w : Nm) (hw : w ≠ []) (c : UInt8) : fl sg (w ++ [c]) = ls sg (fl sg w ++ [c]) := by
 unfold fl
 rw [List.tail_append_of_ne_nil hw, HS P]
theorem LX (P : Pre sg) (w : Nm) (hw : w ≠ []) (c : UInt8) (h : w ++ [c] ∉ sg) : ls sg (w ++ [c]) = ls sg (fl sg w ++ [c]) := by
 rw [← Gn P w hw c]
 cases w with
 | nil => exact absurd rfl hw
 | cons d w =>
  show ls sg (d :: (w ++ [c])) = ls sg (w ++ [c])
  rw [ls]; exact if_neg h
theorem MS (P : Pre sg) {v w : Nm} (h : v <:+ w) (hv : v ∈ sg) (hne : v ≠ w) : v <:+ fl sg w := by
 cases w with
 | nil => rw [List.suffix_nil.1 h]; exact List.nil_suffix
 | cons c w =>
  rcases List.suffix_cons_iff.1 h with h | h
  ·exact absurd h hne
  ·exact Ao w h hv
theorem Kc (w : Nm) : fl sg w <:+ w := (wR _).trans (List.tail_suffix w)
variable (sg) in
def vN (E : Nm → List Nat) (w : Nm) : Nm :=
 if h : w = [] then [] else if E (fl sg w) ≠ [] then fl sg w else vN E (fl sg w)
termination_by w.length
decreasing_by exact Ai w h
theorem uA (E : Nm → List Nat) : vN sg E [] = [] := by rw [vN, dif_pos rfl]
theorem xf (E : Nm → List Nat) {w : Nm} (h : w ≠ []) : vN sg E w = if E (fl sg w) ≠ [] then fl sg w else vN sg E (fl sg w) := by rw [vN, dif_neg h]
theorem Ca (P : Pre sg) (E : Nm → List Nat) : ∀ (n : Nat) (w : Nm), w.length ≤ n → vN sg E w ∈ sg
 | 0, w, h => by rw [List.length_eq_zero_iff.1 (Nat.le_zero.1 h), uA]; exact P.nil
 | n + 1, w, h => by
  by_cases hw : w = []
  ·rw [hw, uA]; exact P.nil
  ·rw [xf E hw]; split
   ·exact NH P w
   ·exact Ca P E n _ (by have := Ai (sg := sg) w hw; omega)
theorem wC (E : Nm → List Nat) : ∀ (n : Nat) (w : Nm), w.length ≤ n → w ≠ [] → (vN sg E w).length < w.length
 | 0, w, h, hw => absurd (List.length_eq_zero_iff.1 (Nat.le_zero.1 h)) hw
 | n + 1, w, h, hw => by
  have hl := Ai (sg := sg) w hw
  rw [xf E hw]; split
  ·exact hl
  ·by_cases hf : fl sg w = []
   ·rw [hf, uA]; exact List.length_pos_iff.2 hw
   ·have := wC E n (fl sg w) (by omega) hf; omega
theorem B7 (E : Nm → List Nat) : ∀ (n : Nat) (w : Nm), w.length ≤ n → vN sg E w <:+ w
 | 0, w, h => by rw [List.length_eq_zero_iff.1 (Nat.le_zero.1 h), uA]; exact List.suffix_refl _
 | n + 1, w, h => by
  by_cases hw : w = []
  ·rw [hw, uA]; exact List.suffix_refl _
  ·rw [xf E hw]; split
   ·exact Kc w
   ·exact (B7 E n _ (by have := Ai (sg := sg) w hw; omega)).trans (Kc w)
theorem Gi (P : Pre sg) (E : Nm → List Nat) (h0 : E [] = []) : ∀ (n : Nat) (w : Nm), w.length ≤ n → ∀ v, v <:+ w → v ∈ sg → E v ≠ [] → v ≠ w → v <:+ vN sg E w
 | 0, w, h, v, hs, hm, he, hne => by
  have := List.length_eq_zero_iff.1 (Nat.le_zero.1 h)
  subst this
  exact absurd (List.suffix_nil.1 hs) hne
 | n + 1, w, h, v, hs, hm, he, hne => by
  by_cases hw : w = []
  ·subst hw; exact absurd (List.suffix_nil.1 hs) hne
  ·have hf := MS P hs hm hne
   rw [xf E hw]; split
   ·exact hf
   ·rename_i hE
    have hE : E (fl sg w) = [] := Classical.byContradiction fun h => hE h
    exact Gi P E h0 n _ (by have := Ai (sg := sg) w hw; omega) v hf hm he fun h => by rw [h] at he; exact he hE
variable (sg) in
def ni (E : Nm → List Nat) (w : Nm) : List Nat :=
 if h : w = [] then [] else E w ++ ni E (vN sg E w)
termination_by w.length
decreasing_by exact wC E _ w (Nat.le_refl _) h
theorem u6 (E : Nm → List Nat) : ni sg E [] = [] := by rw [ni, dif_pos rfl]
theorem Ap (E : Nm → List Nat) {w : Nm} (h : w ≠ []) : ni sg E w = E w ++ ni sg E (vN sg E w) := by rw [ni, dif_neg h]
theorem xh (P : Pre sg) (E : Nm → List Nat) (h0 : E [] = []) (j : Nat) : ∀ (n : Nat) (w : Nm), w.length ≤ n → w ∈ sg → (j ∈ ni sg E w ↔ ∃ v, v <:+ w ∧ v ∈ sg ∧ j ∈ E v)
 | 0, w, h, hw => by
  have := List.length_eq_zero_iff.1 (Nat.le_zero.1 h)
  subst this
  rw [u6]
  constructor
  ·intro h; cases h
  ·rintro ⟨v, h1, h2, h3⟩; rw [List.suffix_nil.1 h1, h0] at h3; cases h3
 | n + 1, w, h, hw => by
  by_cases hn : w = []
  ·subst hn; exact xh P E h0 j 0 [] (Nat.le_refl _) hw
  ·have hl := wC (sg := sg) E _ w (Nat.le_refl _) hn
   have ih := xh P E h0 j n (vN sg E w) (by omega) (Ca P E _ w (Nat.le_refl _))
   rw [Ap E hn, List.mem_append, ih]
   constructor
   ·rintro (h | ⟨v, h1, h2, h3⟩)
    ·exact ⟨w, List.suffix_refl _, hw, h⟩
    ·exact ⟨v, h1.trans (B7 E _ w (Nat.le_refl _)), h2, h3⟩
   ·rintro ⟨v, h1, h2, h3⟩
    by_cases hv : v = w
    ·left; rw [← hv]; exact h3
    ·right; exact ⟨v, Gi P E h0 _ w (Nat.le_refl _) v h1 h2 (fun h => by rw [h] at h3; cases h3) hv, h2, h3⟩
theorem Bc (P : Pre sg) (E : Nm → List Nat) (h0 : E [] = []) (hE : ∀ w, (E w).Nodup) (hd : ∀ v w j, j ∈ E v → j ∈ E w → v = w) : ∀ (n : Nat) (w : Nm), w.length ≤ n → w ∈ sg → (ni sg E w).Nodup
 | 0, w, h, hw => by rw [List.length_eq_zero_iff.1 (Nat.le_zero.1 h), u6]; exact List.nodup_nil
 | n + 1, w, h, hw => by
  by_cases hn : w = []
  ·rw [hn, u6]; exact List.nodup_nil
  ·have hl := wC (sg := sg) E _ w (Nat.le_refl _) hn
   have hm := Ca P E _ w (Nat.le_refl _)
   rw [Ap E hn]
   refine List.nodup_append.2 ⟨hE w, Bc P E h0 hE hd n _ (by omega) hm, fun a ha b hb hab => ?_⟩
   subst hab
   obtain ⟨v, h1, h2, h3⟩ := (xh P E h0 a _ _ (Nat.le_refl _) hm).1 hb
   have := hd _ _ _ ha h3
   subst this
   have := h1.length_le
   omega
end
end Go.Proofs.YtjmfpeiidlpngaaGreatDoor.Au
namespace Go.Proofs.YtjmfpeiidlpngaaGreatDoor.Au
set_option linter.unusedSimpArgs false
set_option linter.unusedVariables false
set_option maxRecDepth 20000
open Go
open Go.IntKind (wrap)
theorem slS (l : Nm) {a b : Int} (i j : Nat) (ha : a = i) (hb : b = j) (h1 : i ≤ j) (h2 : j ≤ l.length) {K : ByteArray → Prop} (hk : K (bs ((l.drop i).take (j - i)))) : mV (bs l) (some a) (some b) K := by
 subst ha hb
 refine ⟨by omega, by omega, by rw [aY]; omega, ?_⟩
 rw [Int.toNat_natCast, Int.toNat_natCast, uP]; exact hk
theorem slF (l : Nm) {a : Int} (i : Nat) (ha : a = i) (h2 : i ≤ l.length) {K : ByteArray → Prop} (hk : K (bs (l.drop i))) : mV (bs l) (some a) none K := by
 subst ha
 refine ⟨by omega, by rw [aY]; omega, ?_⟩
 rw [Int.toNat_natCast, aY, LD]; exact hk
theorem slT (l : Nm) {b : Int} (j : Nat) (hb : b = j) (h2 : j ≤ l.length) {K : ByteArray → Prop} (hk : K (bs (l.take j))) : mV (bs l) none (some b) K := by
 subst hb
 refine ⟨by omega, by rw [aY]; omega, ?_⟩
 rw [Int.toNat_natCast, L4]; exact hk
def bG (b : UInt8) : Int := b.toNat
theorem jY (b : UInt8) : 0 ≤ bG b ∧ bG b ≤ 255 := by unfold bG; have := b.toNat_lt; omega
theorem nW {u v : UInt8} (h : bG u = bG v) : u = v := by apply UInt8.toNat_inj.1; unfold bG at h; omega
theorem ixS (l : Nm) {n : Int} (i : Nat) (hn : n = i) (hi : i < l.length) {K : Int → Prop} (hk : K (bG l[i])) : jD (bs l) n K := by
 subst hn
 refine ⟨by omega, by rw [aY]; omega, ?_⟩
 have : bAt (bs l) (i : Int) = bG l[i] := by
  unfold bAt bG bs
  simp [hi]
 rw [this]; exact hk
def bV (b : UInt8) : List Value := [.int .u8 b.toNat]
theorem sr (b : UInt8) : (bV b).length = 1 := rfl
theorem w8 (l : Nm) : l.flatMap bV = eN l := by
 induction l with
 | nil => rfl
 | cons a l ih => rw [List.flatMap_cons, ih]; rfl
theorem FG : ii Tryz.prog aM gP Tryz.t5 (.int .u8 0) := ⟨Tryz.underlying98, by kernel_rfl, by kernel_rfl, by kernel_rfl, by decide⟩
theorem vl [Gh] {h : aB} {p : Option Addr} {c : Nat} {l : Nm} (R : Row 1 bV h p c l) {K : Value → aB → Prop} (hk : K (.string (bs l)) h) : kN Tryz.prog aM bZ (.slice p l.length c) h K := by
 have o := R.own
 rw [w8] at o
 exact rA Tryz.underlying98 Tryz.underlying9 Tryz.underlying5 (l := l) rfl (fun ad hd => by subst hd; exact o.cells) (fun hd => by subst hd; have := o.1; simpa [eN] using this) hk
theorem Np [Gh] {h : aB} {p : Option Addr} {cap : Nat} {L : Nm} (R : Row 1 bV h p cap L) {e : UInt8} {b : Addr} (ob : Own h b (bV e) gP) (hl : L.length ≤ 2 ^ 29) {K : Value → aB → Prop}
  (hk : ∀ p' cap' h', Row 1 bV h' p' cap' (L ++ [e]) → Fr (InA p) h h' → (∀ b, InA p' b → InA p b ∨ h.size ≤ b) → K (.slice p' (L ++ [e]).length cap') h') :
  cQ Tryz.prog .append #[aM, aM] aM #[false, false] #[.slice p L.length cap, .slice (some b) 1 1] h K :=
 R.app FG Tryz.underlying98 (by intro k e; cases e) (by kernel_rfl) (by decide +kernel) sr (fun _ => rfl) ob 1 hl hk
def yn (c : Int) : Int := if 65 ≤ c ∧ c ≤ 90 then c + 32 else c
def fR (b : UInt8) : UInt8 := if 65 ≤ b ∧ b ≤ 90 then b + 32 else b
def cL (l : Nm) : Nm := l.map fR
theorem wrb {x : Int} (h1 : 0 ≤ x) (h2 : x ≤ 255) : wrap .u8 x = x := wr8 h1 h2
theorem rt (b : UInt8) : bG (fR b) = yn (bG b) := by
 have hb := jY b
 unfold fR yn bG at *
 have e : (65 ≤ b ∧ b ≤ 90) ↔ (65 ≤ (b.toNat : Int) ∧ (b.toNat : Int) ≤ 90) := by
  rw [UInt8.le_iff_toNat_le, UInt8.le_iff_toNat_le]
  show (65 ≤ b.toNat ∧ b.toNat ≤ 90) ↔ _
  omega
 by_cases h : 65 ≤ b ∧ b ≤ 90
 ·rw [if_pos h, if_pos (e.1 h)]
  have h2 := (e.1 h).2
  rw [UInt8.toNat_add]
  show (((b.toNat + 32) % 256 : Nat) : Int) = _
  omega
 ·rw [if_neg h, if_neg fun h' => h (e.2 h')]
theorem BC [Gh] (c : Int) (h0 : 0 ≤ c) (h1 : c ≤ 255) {h : aB} {Q : Value → aB → Prop} (hk : Q (.int .u8 (yn c)) h) : aD Tryz.prog kC #[.int .u8 c] h Q := by
 apply zU
 unfold sJ
 unfold yn at hk
 refine ifD (fun e => ifD (fun e2 => ?_) fun e2 => ?_) fun e => ?_
 ·rw [if_pos ⟨e, e2⟩] at hk
  rw [wrb (x := c + 97) (by omega) (by omega), wrb (by omega) (by omega)]
  have : c + 97 - 65 = c + 32 := by omega
  rw [this]; exact hk
 ·rw [if_neg (by omega)] at hk; exact hk
 ·rw [if_neg (by omega)] at hk; exact hk
theorem ER {b : UInt8} : bG (fR b) = if 65 ≤ bG b ∧ bG b ≤ 90 then bG b + 32 else bG b := rt b
theorem j8 (l : Nm) : (cL l).length = l.length := by unfold cL; simp
theorem JW [Gh] (l : Nm) (hl : l.length ≤ 2 ^ 28) {h : aB} {Q : Value → aB → Prop} (hk : ∀ h', Fr (fun _ => False) h h' → Q (.string (bs (cL l))) h') : aD Tryz.prog sw #[.string (bs l)] h Q := by
 apply Dg
 unfold x5
 refine aX (vs := []) fun t6 h1 f1 e1 o1 => ?_
 have z1 := f1.size
 have R0 : Row 1 bV h1 (some t6) 0 [] := Row.of_own (L := []) sr o1
 refine aH.mk (fun st h' => ∃ (i : Nat), st.2.2.2 = (i : Int) ∧ st.2.1 = (cL (l.take i)).length ∧ i ≤ l.length ∧ Fr (fun _ => False) h h' ∧ Row 1 bV h' st.1 st.2.2.1 (cL (l.take i)) ∧ (∀ b, InA st.1 b → h.size ≤ b)) (fun st _ => l.length - st.2.2.2.toNat)
  ⟨0, rfl, rfl, by omega, f1, R0, fun b hb => by obtain ⟨ad, h1, rfl⟩ := hb; cases h1; omega⟩ ?_
 rintro ⟨a, n, c, j⟩ h2 ⟨i, hj, hn, hi, f2, Ro, ha⟩
 dsimp only at hj hn Ro ha
 subst hj hn
 unfold sq
 dsimp only
 rw [aY]
 have z2 := f2.size
 refine ifD (fun e2 => ?_) fun e2 => ?_
 ·have hlt : i < l.length := by omega
  have hlow : cL (l.take (i + 1)) = cL (l.take i) ++ [fR l[i]] := by
   rw [show l.take (i + 1) = l.take i ++ [l[i]] by rw [List.take_append_getElem]]; unfold cL; rw [List.map_append]; rfl
  have b2 : ∀ {c' : Int} {Kn : (Option Addr) × Nat × Nat × Int → aB → Prop}, c' = bG (fR l[i]) → (∀ p' cap' h', Fr (fun _ => False) h h' → Row 1 bV h' p' cap' (cL (l.take (i + 1))) → (∀ b, InA p' b → h.size ≤ b) → Kn (p', (cL (l.take (i + 1))).length, cap', ((i + 1 : Nat) : Int)) h') → jU (bs l) a (cL (l.take i)).length c (i : Int) c' Q Kn h2 := fun hc hK => by
   subst hc
   unfold jU
   refine aX (vs := bV (fR l[i])) fun b h3 f3 e3 ob => ?_
   have z3 := f3.size
   refine Np (Ro.fr0 f3) ob (by rw [j8, List.length_take]; omega) fun p' c' h4 R4 f4 hn4 => ⟨_, _, _, rfl, ?_⟩
   rw [← hlow] at R4 ⊢
   rw [wr (by omega) (by omega)]
   refine hK p' c' h4 ((f2.trans f3).tr f4 fun b hb hi => by have := ha b hi; omega) R4 fun b hb => ?_
   rcases hn4 b hb with h | h
   ·exact ha b h
   ·omega
  have hb := jY l[i]
  refine ixS l i rfl hlt ?_
  have go : ∀ p' cap' h', Fr (fun _ => False) h h' → Row 1 bV h' p' cap' (cL (l.take (i + 1))) → (∀ b, InA p' b → h.size ≤ b) → (∃ (k : Nat), ((i + 1 : Nat) : Int) = (k : Int) ∧ (cL (l.take (i + 1))).length = (cL (l.take k)).length ∧ k ≤ l.length ∧ Fr (fun _ => False) h h' ∧ Row 1 bV h' p' cap' (cL (l.take k)) ∧ (∀ b, InA p' b → h.size ≤ b)) ∧ l.length - ((i + 1 : Nat) : Int).toNat < l.length - (i : Int).toNat := fun p' cap' h' f' R' hp' => ⟨⟨i + 1, rfl, rfl, hlt, f', R', hp'⟩, by omega⟩
  refine ifD (fun e3 => ifD (fun e4 => ?_) fun e4 => ?_) fun e3 => ?_
  ·exact b2 (by rw [ER, if_pos ⟨e3, e4⟩, wr8 (by omega) (by omega)]) go
  ·exact b2 (by rw [ER, if_neg (by omega)]) go
  ·exact b2 (by rw [ER, if_neg (by omega)]) go
 ·rw [List.take_of_length_le (by omega)] at Ro ⊢
  exact vl Ro ⟨_, rfl, hk h2 f2⟩
theorem KT (l : Nm) (i : Nat) (hi : i < l.length) : (cL (l.take i) ++ l.drop i).set i (fR l[i]) = cL (l.take (i + 1)) ++ l.drop (i + 1) := by
 have hlow : cL (l.take (i + 1)) = cL (l.take i) ++ [fR l[i]] := by
  rw [show l.take (i + 1) = l.take i ++ [l[i]] by rw [List.take_append_getElem]]; unfold cL; rw [List.map_append]; rfl
 have hlen : (cL (l.take i)).length = i := by rw [j8, List.length_take]; omega
 rw [List.set_append_right _ _ (by omega), hlen, Nat.sub_self, List.drop_eq_getElem_cons hi, List.set_cons_zero, hlow]
 simp
theorem My (l : Nm) (i : Nat) (hi : i < l.length) (h : i < (cL (l.take i) ++ l.drop i).length) : (cL (l.take i) ++ l.drop i)[i] = l[i] := by
 have hlen : (cL (l.take i)).length = i := by rw [j8, List.length_take]; omega
 rw [List.getElem_append_right (by omega), List.getElem_drop]
 congr 1; omega
theorem MX (l : Nm) (i : Nat) (hi : i ≤ l.length) : (cL (l.take i) ++ l.drop i).length = l.length := by rw [List.length_append, j8, List.length_take, List.length_drop]; omega
theorem _root_.Go.Proofs.YtjmfpeiidlpngaaGreatDoor.Row.setB [Gh] {h : aB} {p : Option Addr} {cap : Nat} {L : Nm} (R : Row 1 bV h p cap L) {n : Int} {len : Nat} (i : Nat) (hn : n = i) (hl : len = L.length) (hi : i < L.length) (x : UInt8) {c : Int} (hc : c = bG x) {K : aB → Prop} (hk : ∀ h', Fr (InA p) h h' → Row 1 bV h' p cap (L.set i x) → K h') :
  bM n len (nn p fun a => st1 h (a.add (n.toNat * 1)) (.int .u8 c) K) := by
 subst hc hl
 refine bP i hn hi ?_
 obtain ⟨ad, hp, _⟩ := R.cellsAt sr (by omega) i hi
 subst hp
 refine aS ?_
 rw [hn, Int.toNat_natCast]
 have := R.set1 sr i hi rfl (j := 0) (by omega) (v := .int .u8 (bG x)) rfl (e' := x) rfl hk
 rw [kL, Nat.add_zero] at this
 exact this
end Go.Proofs.YtjmfpeiidlpngaaGreatDoor.Au
namespace Go.Proofs.YtjmfpeiidlpngaaGreatDoor.Au
set_option linter.unusedSimpArgs false
set_option linter.unusedVariables false
set_option maxRecDepth 20000
open Go
open Go.IntKind (wrap)
structure Pt where
 t : Nm
 nc : Bool
def ptV (p : Pt) : List Value := [.string (bs p.t), .bool p.nc]
def Ku (h : aB) (q : Option Addr) (L : List Pt) : Prop := ∀ i (hi : i < L.length), ∃ ad, q = some ad ∧ bA h (ad.add (i * 2)) (ptV L[i])
theorem Ku.get {h : aB} {q : Option Addr} {L : List Pt} (S : Ku h q L) {n : Int} (i : Nat) (hn : n = i) (hi : i < L.length) {K : Addr → Prop} (hk : ∀ ad, bA h (ad.add (i * 2)) [.string (bs L[i].t), .bool L[i].nc] → K ad) : bM n L.length (nn q fun a => K a) := by
 obtain ⟨ad, rfl, c⟩ := S i hi
 exact bP i hn hi (aS (hk ad c))
def CH (s : Nm) (k n : Nat) : Nm := (s.drop (n - k)).take k
def vQ (p : Pt) (s : Nm) (n : Nat) : Bool :=
 decide (p.t ≠ []) && (decide (p.t.length ≤ n) && (if p.nc = true then decide (cL (CH s p.t.length n) = cL p.t) else decide (CH s p.t.length n = p.t)))
abbrev Hit := Nat × Nat
def Cc (x : Hit) : List Value := [.int .i64 x.1, .int .i64 x.2]
theorem FQ (x : Hit) : (Cc x).length = 2 := rfl
theorem Nj : ii Tryz.prog kJ As Tryz.t174 (.agg #[.int .i64 0, .int .i64 0]) :=
 ⟨Tryz.underlying108, by kernel_rfl, by kernel_rfl, by kernel_rfl, by decide +kernel⟩
theorem MO [Gh] {h : aB} {p : Option Addr} {cap : Nat} {L : List Hit} (R : Row 2 Cc h p cap L) {e : Hit} {b : Addr} {T : TypeId} (ob : Own h b (Cc e) T) (hl : L.length ≤ 2 ^ 29) {K : Value → aB → Prop}
  (hk : ∀ p' cap' h', Row 2 Cc h' p' cap' (L ++ [e]) → Fr (InA p) h h' → (∀ b, InA p' b → InA p b ∨ h.size ≤ b) → K (.slice p' (L ++ [e]).length cap') h') :
  cQ Tryz.prog .append #[kJ, kJ] kJ #[false, false] #[.slice p L.length cap, .slice (some b) 1 1] h K :=
 R.app Nj Tryz.underlying108 (by intro k e; cases e) (by kernel_rfl) (by decide +kernel) FQ (fun _ => rfl) ob 1 hl hk
def hA (L : List Pt) (s : Nm) (n i : Nat) : List Hit := (List.range i).flatMap fun j => if vQ (L.getD j ⟨[], false⟩) s n = true then [(j, n)] else []
theorem LI (L : List Pt) (s : Nm) (n i : Nat) : hA L s n (i + 1) = hA L s n i ++ (if vQ (L.getD i ⟨[], false⟩) s n = true then [(i, n)] else []) := by
 unfold hA
 rw [List.range_succ, List.flatMap_append, List.flatMap_cons, List.flatMap_nil, List.append_nil]
theorem J1 (L : List Pt) (s : Nm) (n : Nat) : ∀ i, (hA L s n i).length ≤ i
 | 0 => Nat.le_refl _
 | i + 1 => by
  have ih := J1 L s n i
  rw [LI, List.length_append]
  split
  ·rw [List.length_singleton]; omega
  ·rw [List.length_nil]; omega
def qH (L : List Pt) (s : Nm) (fm k : Nat) : List Hit := (List.range k).flatMap fun m => hA L s (fm + 1 + m) L.length
theorem D3 (L : List Pt) (s : Nm) (fm k : Nat) : qH L s fm (k + 1) = qH L s fm k ++ hA L s (fm + 1 + k) L.length := by
 unfold qH
 rw [List.range_succ, List.flatMap_append]; simp
theorem yV (L : List Pt) (s : Nm) (fm : Nat) : ∀ k, (qH L s fm k).length ≤ k * L.length
 | 0 => by simp [qH]
 | k + 1 => by
  have ih := yV L s fm k
  have h2 := J1 L s (fm + 1 + k) L.length
  rw [D3, List.length_append, Nat.succ_mul]; omega
end Go.Proofs.YtjmfpeiidlpngaaGreatDoor.Au
namespace Go.Proofs.YtjmfpeiidlpngaaGreatDoor.Au
set_option linter.unusedSimpArgs false
set_option linter.unusedVariables false
set_option maxRecDepth 20000
open Go
open Go.IntKind (wrap)
theorem DX (s : Nm) (n : Nat) : (cL s).take n = cL (s.take n) := by unfold cL; rw [List.map_take]
end Go.Proofs.YtjmfpeiidlpngaaGreatDoor.Au
namespace Go.Proofs.YtjmfpeiidlpngaaGreatDoor
set_option linter.unusedSimpArgs false
set_option linter.unusedVariables false
set_option maxRecDepth 20000
open Go
structure aL where
 V6 : Bool
 Hi : Int
 Lo : Int
def aL.vals (r : aL) : List Go.Value := [.bool r.V6, .int .u64 r.Hi, .int .u64 r.Lo]
structure aL.ok (h : aB) (r : aL) : Prop where
 k0 : bOk h r.V6
 k1 : (kOk .u64) h r.Hi
 k2 : (kOk .u64) h r.Lo
theorem aL.ok_fr (h h' : aB) (r : aL) (f : Fr (fun _ => False) h h') (o : aL.ok h r) : aL.ok h' r :=
 ⟨o.k0, o.k1, o.k2⟩
section
open Go.ChangeShapes Go.WideShapes Go.ChangeAt Go.RowKit
variable {H : Type} {enc : TypeId × Go.Value → H} {w : World}
set_option maxRecDepth 100000 in
theorem aL.op : bR enc Tryz.prog w cN aL.vals aL.ok := fun fuel cs x h => by
 obtain ⟨xs, n, rfl, hx, hl, hxl, hf⟩ := DataW.trod_struct Tryz.underlying25 h
 rw [show Tryz.prog.cellsOf 25 = 3 from by kernel_rfl] at hl
 match xs, hxl, cs, hl with
 | [y0, y1, y2], _, [v0, v1, v2], _ =>
  have g0 : DataW.trod enc Tryz.prog w 0 (fun _ => true) true n 4 (([v0, v1, v2].drop 0).take (Tryz.prog.cellsOf 4)) = some y0 := hf 0 _ rfl
  rw [show Tryz.prog.cellsOf 4 = 1 from by kernel_rfl] at g0
  obtain ⟨z0, e0, o0⟩ := ((oS Tryz.underlying4) : bR enc Tryz.prog w 4 (fun n : Bool => [Go.Value.bool n]) bOk) _ _ _ g0
  have g1 : DataW.trod enc Tryz.prog w 0 (fun _ => true) true n 23 (([v0, v1, v2].drop 1).take (Tryz.prog.cellsOf 23)) = some y1 := hf 1 _ rfl
  rw [show Tryz.prog.cellsOf 23 = 1 from by kernel_rfl] at g1
  obtain ⟨z1, e1, o1⟩ := ((eY Tryz.underlying23) : bR enc Tryz.prog w 23 (fun n : Int => [Go.Value.int .u64 n]) (kOk .u64)) _ _ _ g1
  have g2 : DataW.trod enc Tryz.prog w 0 (fun _ => true) true n 23 (([v0, v1, v2].drop 2).take (Tryz.prog.cellsOf 23)) = some y2 := hf 2 _ rfl
  rw [show Tryz.prog.cellsOf 23 = 1 from by kernel_rfl] at g2
  obtain ⟨z2, e2, o2⟩ := ((eY Tryz.underlying23) : bR enc Tryz.prog w 23 (fun n : Int => [Go.Value.int .u64 n]) (kOk .u64)) _ _ _ g2
  obtain rfl := List.head_eq_of_cons_eq e0
  obtain rfl := List.head_eq_of_cons_eq e1
  obtain rfl := List.head_eq_of_cons_eq e2
  exact ⟨⟨z0, z1, z2⟩, rfl, ⟨o0, o1, o2⟩⟩
end
structure bW where
 Addr : aL
 Bits : Int
def bW.vals (r : bW) : List Go.Value := [.bool r.Addr.V6, .int .u64 r.Addr.Hi, .int .u64 r.Addr.Lo, .int .i64 r.Bits]
structure bW.ok (h : aB) (r : bW) : Prop where
 k0 : aL.ok h r.Addr
 k1 : (kOk .i64) h r.Bits
theorem bW.ok_fr (h h' : aB) (r : bW) (f : Fr (fun _ => False) h h') (o : bW.ok h r) : bW.ok h' r :=
 ⟨aL.ok_fr _ _ _ f o.k0, o.k1⟩
section
open Go.ChangeShapes Go.WideShapes Go.ChangeAt Go.RowKit
variable {H : Type} {enc : TypeId × Go.Value → H} {w : World}
set_option maxRecDepth 100000 in
theorem bW.op : bR enc Tryz.prog w zV bW.vals bW.ok := fun fuel cs x h => by
 obtain ⟨xs, n, rfl, hx, hl, hxl, hf⟩ := DataW.trod_struct Tryz.underlying137 h
 rw [show Tryz.prog.cellsOf 137 = 4 from by kernel_rfl] at hl
 match xs, hxl, cs, hl with
 | [y0, y1], _, [v0, v1, v2, v3], _ =>
  have g0 : DataW.trod enc Tryz.prog w 0 (fun _ => true) true n 25 (([v0, v1, v2, v3].drop 0).take (Tryz.prog.cellsOf 25)) = some y0 := hf 0 _ rfl
  rw [show Tryz.prog.cellsOf 25 = 3 from by kernel_rfl] at g0
  obtain ⟨z0, e0, o0⟩ := (aL.op : bR enc Tryz.prog w 25 aL.vals aL.ok) _ _ _ g0
  have g1 : DataW.trod enc Tryz.prog w 0 (fun _ => true) true n 3 (([v0, v1, v2, v3].drop 3).take (Tryz.prog.cellsOf 3)) = some y1 := hf 1 _ rfl
  rw [show Tryz.prog.cellsOf 3 = 1 from by kernel_rfl] at g1
  obtain ⟨z1, e1, o1⟩ := ((eY Tryz.underlying3) : bR enc Tryz.prog w 3 (fun n : Int => [Go.Value.int .i64 n]) (kOk .i64)) _ _ _ g1
  have e0 : [v0, v1, v2] = aL.vals z0 := e0
  simp only [aL.vals, List.cons.injEq, and_true] at e0
  obtain ⟨rfl, rfl, rfl⟩ := e0
  obtain rfl := List.head_eq_of_cons_eq e1
  exact ⟨⟨z0, z1⟩, rfl, ⟨o0, o1⟩⟩
end
structure aO where
 Not : Bool
 Var : List UInt8
 Prefix : bW
def aO.vals (r : aO) : List Go.Value := [.bool r.Not, .string (bs r.Var), .bool r.Prefix.Addr.V6, .int .u64 r.Prefix.Addr.Hi, .int .u64 r.Prefix.Addr.Lo, .int .i64 r.Prefix.Bits]
structure aO.ok (h : aB) (r : aO) : Prop where
 k0 : bOk h r.Not
 k1 : sOk h r.Var
 k2 : bW.ok h r.Prefix
theorem aO.ok_fr (h h' : aB) (r : aO) (f : Fr (fun _ => False) h h') (o : aO.ok h r) : aO.ok h' r :=
 ⟨o.k0, o.k1, bW.ok_fr _ _ _ f o.k2⟩
section
open Go.ChangeShapes Go.WideShapes Go.ChangeAt Go.RowKit
variable {H : Type} {enc : TypeId × Go.Value → H} {w : World}
set_option maxRecDepth 100000 in
theorem aO.op : bR enc Tryz.prog w sf aO.vals aO.ok := fun fuel cs x h => by
 obtain ⟨xs, n, rfl, hx, hl, hxl, hf⟩ := DataW.trod_struct Tryz.underlying139 h
 rw [show Tryz.prog.cellsOf 139 = 6 from by kernel_rfl] at hl
 match xs, hxl, cs, hl with
 | [y0, y1, y2], _, [v0, v1, v2, v3, v4, v5], _ =>
  have g0 : DataW.trod enc Tryz.prog w 0 (fun _ => true) true n 4 (([v0, v1, v2, v3, v4, v5].drop 0).take (Tryz.prog.cellsOf 4)) = some y0 := hf 0 _ rfl
  rw [show Tryz.prog.cellsOf 4 = 1 from by kernel_rfl] at g0
  obtain ⟨z0, e0, o0⟩ := ((oS Tryz.underlying4) : bR enc Tryz.prog w 4 (fun n : Bool => [Go.Value.bool n]) bOk) _ _ _ g0
  have g1 : DataW.trod enc Tryz.prog w 0 (fun _ => true) true n 9 (([v0, v1, v2, v3, v4, v5].drop 1).take (Tryz.prog.cellsOf 9)) = some y1 := hf 1 _ rfl
  rw [show Tryz.prog.cellsOf 9 = 1 from by kernel_rfl] at g1
  obtain ⟨z1, e1, o1⟩ := ((AC Tryz.underlying9) : bR enc Tryz.prog w 9 (fun l : List UInt8 => [Go.Value.string (bs l)]) sOk) _ _ _ g1
  have g2 : DataW.trod enc Tryz.prog w 0 (fun _ => true) true n 137 (([v0, v1, v2, v3, v4, v5].drop 2).take (Tryz.prog.cellsOf 137)) = some y2 := hf 2 _ rfl
  rw [show Tryz.prog.cellsOf 137 = 4 from by kernel_rfl] at g2
  obtain ⟨z2, e2, o2⟩ := (bW.op : bR enc Tryz.prog w 137 bW.vals bW.ok) _ _ _ g2
  obtain rfl := List.head_eq_of_cons_eq e0
  obtain rfl := List.head_eq_of_cons_eq e1
  have e2 : [v2, v3, v4, v5] = bW.vals z2 := e2
  simp only [bW.vals, List.cons.injEq, and_true] at e2
  obtain ⟨rfl, rfl, rfl, rfl⟩ := e2
  exact ⟨⟨z0, z1, z2⟩, rfl, ⟨o0, o1, o2⟩⟩
end
structure aN where
 Not : Bool
 Var : List UInt8
 Lo : Int
 Hi : Int
def aN.vals (r : aN) : List Go.Value := [.bool r.Not, .string (bs r.Var), .int .i64 r.Lo, .int .i64 r.Hi]
structure aN.ok (h : aB) (r : aN) : Prop where
 k0 : bOk h r.Not
 k1 : sOk h r.Var
 k2 : (kOk .i64) h r.Lo
 k3 : (kOk .i64) h r.Hi
theorem aN.ok_fr (h h' : aB) (r : aN) (f : Fr (fun _ => False) h h') (o : aN.ok h r) : aN.ok h' r :=
 ⟨o.k0, o.k1, o.k2, o.k3⟩
section
open Go.ChangeShapes Go.WideShapes Go.ChangeAt Go.RowKit
variable {H : Type} {enc : TypeId × Go.Value → H} {w : World}
set_option maxRecDepth 100000 in
theorem aN.op : bR enc Tryz.prog w oK aN.vals aN.ok := fun fuel cs x h => by
 obtain ⟨xs, n, rfl, hx, hl, hxl, hf⟩ := DataW.trod_struct Tryz.underlying142 h
 rw [show Tryz.prog.cellsOf 142 = 4 from by kernel_rfl] at hl
 match xs, hxl, cs, hl with
 | [y0, y1, y2, y3], _, [v0, v1, v2, v3], _ =>
  have g0 : DataW.trod enc Tryz.prog w 0 (fun _ => true) true n 4 (([v0, v1, v2, v3].drop 0).take (Tryz.prog.cellsOf 4)) = some y0 := hf 0 _ rfl
  rw [show Tryz.prog.cellsOf 4 = 1 from by kernel_rfl] at g0
  obtain ⟨z0, e0, o0⟩ := ((oS Tryz.underlying4) : bR enc Tryz.prog w 4 (fun n : Bool => [Go.Value.bool n]) bOk) _ _ _ g0
  have g1 : DataW.trod enc Tryz.prog w 0 (fun _ => true) true n 9 (([v0, v1, v2, v3].drop 1).take (Tryz.prog.cellsOf 9)) = some y1 := hf 1 _ rfl
  rw [show Tryz.prog.cellsOf 9 = 1 from by kernel_rfl] at g1
  obtain ⟨z1, e1, o1⟩ := ((AC Tryz.underlying9) : bR enc Tryz.prog w 9 (fun l : List UInt8 => [Go.Value.string (bs l)]) sOk) _ _ _ g1
  have g2 : DataW.trod enc Tryz.prog w 0 (fun _ => true) true n 3 (([v0, v1, v2, v3].drop 2).take (Tryz.prog.cellsOf 3)) = some y2 := hf 2 _ rfl
  rw [show Tryz.prog.cellsOf 3 = 1 from by kernel_rfl] at g2
  obtain ⟨z2, e2, o2⟩ := ((eY Tryz.underlying3) : bR enc Tryz.prog w 3 (fun n : Int => [Go.Value.int .i64 n]) (kOk .i64)) _ _ _ g2
  have g3 : DataW.trod enc Tryz.prog w 0 (fun _ => true) true n 3 (([v0, v1, v2, v3].drop 3).take (Tryz.prog.cellsOf 3)) = some y3 := hf 3 _ rfl
  rw [show Tryz.prog.cellsOf 3 = 1 from by kernel_rfl] at g3
  obtain ⟨z3, e3, o3⟩ := ((eY Tryz.underlying3) : bR enc Tryz.prog w 3 (fun n : Int => [Go.Value.int .i64 n]) (kOk .i64)) _ _ _ g3
  obtain rfl := List.head_eq_of_cons_eq e0
  obtain rfl := List.head_eq_of_cons_eq e1
  obtain rfl := List.head_eq_of_cons_eq e2
  obtain rfl := List.head_eq_of_cons_eq e3
  exact ⟨⟨z0, z1, z2, z3⟩, rfl, ⟨o0, o1, o2, o3⟩⟩
end
structure aI where
 Pattern : List UInt8
 Nocase : Bool
 Not : Bool
 Relative : Bool
 Offset : Int
 Depth : Int
 Fast : Bool
def aI.vals (r : aI) : List Go.Value := [.string (bs r.Pattern), .bool r.Nocase, .bool r.Not, .bool r.Relative, .int .i64 r.Offset, .int .i64 r.Depth, .bool r.Fast]
structure aI.ok (h : aB) (r : aI) : Prop where
 k0 : sOk h r.Pattern
 k1 : bOk h r.Nocase
 k2 : bOk h r.Not
 k3 : bOk h r.Relative
 k4 : (kOk .i64) h r.Offset
 k5 : (kOk .i64) h r.Depth
 k6 : bOk h r.Fast
theorem aI.ok_fr (h h' : aB) (r : aI) (f : Fr (fun _ => False) h h') (o : aI.ok h r) : aI.ok h' r :=
 ⟨o.k0, o.k1, o.k2, o.k3, o.k4, o.k5, o.k6⟩
section
open Go.ChangeShapes Go.WideShapes Go.ChangeAt Go.RowKit
variable {H : Type} {enc : TypeId × Go.Value → H} {w : World}
set_option maxRecDepth 100000 in
theorem aI.op : bR enc Tryz.prog w eQ aI.vals aI.ok := fun fuel cs x h => by
 obtain ⟨xs, n, rfl, hx, hl, hxl, hf⟩ := DataW.trod_struct Tryz.underlying133 h
 rw [show Tryz.prog.cellsOf 133 = 7 from by kernel_rfl] at hl
 match xs, hxl, cs, hl with
 | [y0, y1, y2, y3, y4, y5, y6], _, [v0, v1, v2, v3, v4, v5, v6], _ =>
  have g0 : DataW.trod enc Tryz.prog w 0 (fun _ => true) true n 9 (([v0, v1, v2, v3, v4, v5, v6].drop 0).take (Tryz.prog.cellsOf 9)) = some y0 := hf 0 _ rfl
  rw [show Tryz.prog.cellsOf 9 = 1 from by kernel_rfl] at g0
  obtain ⟨z0, e0, o0⟩ := ((AC Tryz.underlying9) : bR enc Tryz.prog w 9 (fun l : List UInt8 => [Go.Value.string (bs l)]) sOk) _ _ _ g0
  have g1 : DataW.trod enc Tryz.prog w 0 (fun _ => true) true n 4 (([v0, v1, v2, v3, v4, v5, v6].drop 1).take (Tryz.prog.cellsOf 4)) = some y1 := hf 1 _ rfl
  rw [show Tryz.prog.cellsOf 4 = 1 from by kernel_rfl] at g1
  obtain ⟨z1, e1, o1⟩ := ((oS Tryz.underlying4) : bR enc Tryz.prog w 4 (fun n : Bool => [Go.Value.bool n]) bOk) _ _ _ g1
  have g2 : DataW.trod enc Tryz.prog w 0 (fun _ => true) true n 4 (([v0, v1, v2, v3, v4, v5, v6].drop 2).take (Tryz.prog.cellsOf 4)) = some y2 := hf 2 _ rfl
  rw [show Tryz.prog.cellsOf 4 = 1 from by kernel_rfl] at g2
  obtain ⟨z2, e2, o2⟩ := ((oS Tryz.underlying4) : bR enc Tryz.prog w 4 (fun n : Bool => [Go.Value.bool n]) bOk) _ _ _ g2
  have g3 : DataW.trod enc Tryz.prog w 0 (fun _ => true) true n 4 (([v0, v1, v2, v3, v4, v5, v6].drop 3).take (Tryz.prog.cellsOf 4)) = some y3 := hf 3 _ rfl
  rw [show Tryz.prog.cellsOf 4 = 1 from by kernel_rfl] at g3
  obtain ⟨z3, e3, o3⟩ := ((oS Tryz.underlying4) : bR enc Tryz.prog w 4 (fun n : Bool => [Go.Value.bool n]) bOk) _ _ _ g3
  have g4 : DataW.trod enc Tryz.prog w 0 (fun _ => true) true n 3 (([v0, v1, v2, v3, v4, v5, v6].drop 4).take (Tryz.prog.cellsOf 3)) = some y4 := hf 4 _ rfl
  rw [show Tryz.prog.cellsOf 3 = 1 from by kernel_rfl] at g4
  obtain ⟨z4, e4, o4⟩ := ((eY Tryz.underlying3) : bR enc Tryz.prog w 3 (fun n : Int => [Go.Value.int .i64 n]) (kOk .i64)) _ _ _ g4
  have g5 : DataW.trod enc Tryz.prog w 0 (fun _ => true) true n 3 (([v0, v1, v2, v3, v4, v5, v6].drop 5).take (Tryz.prog.cellsOf 3)) = some y5 := hf 5 _ rfl
  rw [show Tryz.prog.cellsOf 3 = 1 from by kernel_rfl] at g5
  obtain ⟨z5, e5, o5⟩ := ((eY Tryz.underlying3) : bR enc Tryz.prog w 3 (fun n : Int => [Go.Value.int .i64 n]) (kOk .i64)) _ _ _ g5
  have g6 : DataW.trod enc Tryz.prog w 0 (fun _ => true) true n 4 (([v0, v1, v2, v3, v4, v5, v6].drop 6).take (Tryz.prog.cellsOf 4)) = some y6 := hf 6 _ rfl
  rw [show Tryz.prog.cellsOf 4 = 1 from by kernel_rfl] at g6
  obtain ⟨z6, e6, o6⟩ := ((oS Tryz.underlying4) : bR enc Tryz.prog w 4 (fun n : Bool => [Go.Value.bool n]) bOk) _ _ _ g6
  obtain rfl := List.head_eq_of_cons_eq e0
  obtain rfl := List.head_eq_of_cons_eq e1
  obtain rfl := List.head_eq_of_cons_eq e2
  obtain rfl := List.head_eq_of_cons_eq e3
  obtain rfl := List.head_eq_of_cons_eq e4
  obtain rfl := List.head_eq_of_cons_eq e5
  obtain rfl := List.head_eq_of_cons_eq e6
  exact ⟨⟨z0, z1, z2, z3, z4, z5, z6⟩, rfl, ⟨o0, o1, o2, o3, o4, o5, o6⟩⟩
end
structure bO where
 Op : Int
 Size : Int
 Value : Int
 Offset : Int
 Relative : Bool
 Little : Bool
 Not : Bool
def bO.vals (r : bO) : List Go.Value := [.int .i64 r.Op, .int .i64 r.Size, .int .i64 r.Value, .int .i64 r.Offset, .bool r.Relative, .bool r.Little, .bool r.Not]
structure bO.ok (h : aB) (r : bO) : Prop where
 k0 : (kOk .i64) h r.Op
 k1 : (kOk .i64) h r.Size
 k2 : (kOk .i64) h r.Value
 k3 : (kOk .i64) h r.Offset
 k4 : bOk h r.Relative
 k5 : bOk h r.Little
 k6 : bOk h r.Not
theorem bO.ok_fr (h h' : aB) (r : bO) (f : Fr (fun _ => False) h h') (o : bO.ok h r) : bO.ok h' r :=
 ⟨o.k0, o.k1, o.k2, o.k3, o.k4, o.k5, o.k6⟩
section
open Go.ChangeShapes Go.WideShapes Go.ChangeAt Go.RowKit
variable {H : Type} {enc : TypeId × Go.Value → H} {w : World}
set_option maxRecDepth 100000 in
theorem bO.op : bR enc Tryz.prog w uU bO.vals bO.ok := fun fuel cs x h => by
 obtain ⟨xs, n, rfl, hx, hl, hxl, hf⟩ := DataW.trod_struct Tryz.underlying146 h
 rw [show Tryz.prog.cellsOf 146 = 7 from by kernel_rfl] at hl
 match xs, hxl, cs, hl with
 | [y0, y1, y2, y3, y4, y5, y6], _, [v0, v1, v2, v3, v4, v5, v6], _ =>
  have g0 : DataW.trod enc Tryz.prog w 0 (fun _ => true) true n 3 (([v0, v1, v2, v3, v4, v5, v6].drop 0).take (Tryz.prog.cellsOf 3)) = some y0 := hf 0 _ rfl
  rw [show Tryz.prog.cellsOf 3 = 1 from by kernel_rfl] at g0
  obtain ⟨z0, e0, o0⟩ := ((eY Tryz.underlying3) : bR enc Tryz.prog w 3 (fun n : Int => [Go.Value.int .i64 n]) (kOk .i64)) _ _ _ g0
  have g1 : DataW.trod enc Tryz.prog w 0 (fun _ => true) true n 3 (([v0, v1, v2, v3, v4, v5, v6].drop 1).take (Tryz.prog.cellsOf 3)) = some y1 := hf 1 _ rfl
  rw [show Tryz.prog.cellsOf 3 = 1 from by kernel_rfl] at g1
  obtain ⟨z1, e1, o1⟩ := ((eY Tryz.underlying3) : bR enc Tryz.prog w 3 (fun n : Int => [Go.Value.int .i64 n]) (kOk .i64)) _ _ _ g1
  have g2 : DataW.trod enc Tryz.prog w 0 (fun _ => true) true n 3 (([v0, v1, v2, v3, v4, v5, v6].drop 2).take (Tryz.prog.cellsOf 3)) = some y2 := hf 2 _ rfl
  rw [show Tryz.prog.cellsOf 3 = 1 from by kernel_rfl] at g2
  obtain ⟨z2, e2, o2⟩ := ((eY Tryz.underlying3) : bR enc Tryz.prog w 3 (fun n : Int => [Go.Value.int .i64 n]) (kOk .i64)) _ _ _ g2
  have g3 : DataW.trod enc Tryz.prog w 0 (fun _ => true) true n 3 (([v0, v1, v2, v3, v4, v5, v6].drop 3).take (Tryz.prog.cellsOf 3)) = some y3 := hf 3 _ rfl
  rw [show Tryz.prog.cellsOf 3 = 1 from by kernel_rfl] at g3
  obtain ⟨z3, e3, o3⟩ := ((eY Tryz.underlying3) : bR enc Tryz.prog w 3 (fun n : Int => [Go.Value.int .i64 n]) (kOk .i64)) _ _ _ g3
  have g4 : DataW.trod enc Tryz.prog w 0 (fun _ => true) true n 4 (([v0, v1, v2, v3, v4, v5, v6].drop 4).take (Tryz.prog.cellsOf 4)) = some y4 := hf 4 _ rfl
  rw [show Tryz.prog.cellsOf 4 = 1 from by kernel_rfl] at g4
  obtain ⟨z4, e4, o4⟩ := ((oS Tryz.underlying4) : bR enc Tryz.prog w 4 (fun n : Bool => [Go.Value.bool n]) bOk) _ _ _ g4
  have g5 : DataW.trod enc Tryz.prog w 0 (fun _ => true) true n 4 (([v0, v1, v2, v3, v4, v5, v6].drop 5).take (Tryz.prog.cellsOf 4)) = some y5 := hf 5 _ rfl
  rw [show Tryz.prog.cellsOf 4 = 1 from by kernel_rfl] at g5
  obtain ⟨z5, e5, o5⟩ := ((oS Tryz.underlying4) : bR enc Tryz.prog w 4 (fun n : Bool => [Go.Value.bool n]) bOk) _ _ _ g5
  have g6 : DataW.trod enc Tryz.prog w 0 (fun _ => true) true n 4 (([v0, v1, v2, v3, v4, v5, v6].drop 6).take (Tryz.prog.cellsOf 4)) = some y6 := hf 6 _ rfl
  rw [show Tryz.prog.cellsOf 4 = 1 from by kernel_rfl] at g6
  obtain ⟨z6, e6, o6⟩ := ((oS Tryz.underlying4) : bR enc Tryz.prog w 4 (fun n : Bool => [Go.Value.bool n]) bOk) _ _ _ g6
  obtain rfl := List.head_eq_of_cons_eq e0
  obtain rfl := List.head_eq_of_cons_eq e1
  obtain rfl := List.head_eq_of_cons_eq e2
  obtain rfl := List.head_eq_of_cons_eq e3
  obtain rfl := List.head_eq_of_cons_eq e4
  obtain rfl := List.head_eq_of_cons_eq e5
  obtain rfl := List.head_eq_of_cons_eq e6
  exact ⟨⟨z0, z1, z2, z3, z4, z5, z6⟩, rfl, ⟨o0, o1, o2, o3, o4, o5, o6⟩⟩
end
structure bB where
 Op : Int
 Name : List UInt8
def bB.vals (r : bB) : List Go.Value := [.int .i64 r.Op, .string (bs r.Name)]
structure bB.ok (h : aB) (r : bB) : Prop where
 k0 : (kOk .i64) h r.Op
 k1 : sOk h r.Name
theorem bB.ok_fr (h h' : aB) (r : bB) (f : Fr (fun _ => False) h h') (o : bB.ok h r) : bB.ok h' r :=
 ⟨o.k0, o.k1⟩
section
open Go.ChangeShapes Go.WideShapes Go.ChangeAt Go.RowKit
variable {H : Type} {enc : TypeId × Go.Value → H} {w : World}
set_option maxRecDepth 100000 in
theorem bB.op : bR enc Tryz.prog w va bB.vals bB.ok := fun fuel cs x h => by
 obtain ⟨xs, n, rfl, hx, hl, hxl, hf⟩ := DataW.trod_struct Tryz.underlying149 h
 rw [show Tryz.prog.cellsOf 149 = 2 from by kernel_rfl] at hl
 match xs, hxl, cs, hl with
 | [y0, y1], _, [v0, v1], _ =>
  have g0 : DataW.trod enc Tryz.prog w 0 (fun _ => true) true n 3 (([v0, v1].drop 0).take (Tryz.prog.cellsOf 3)) = some y0 := hf 0 _ rfl
  rw [show Tryz.prog.cellsOf 3 = 1 from by kernel_rfl] at g0
  obtain ⟨z0, e0, o0⟩ := ((eY Tryz.underlying3) : bR enc Tryz.prog w 3 (fun n : Int => [Go.Value.int .i64 n]) (kOk .i64)) _ _ _ g0
  have g1 : DataW.trod enc Tryz.prog w 0 (fun _ => true) true n 9 (([v0, v1].drop 1).take (Tryz.prog.cellsOf 9)) = some y1 := hf 1 _ rfl
  rw [show Tryz.prog.cellsOf 9 = 1 from by kernel_rfl] at g1
  obtain ⟨z1, e1, o1⟩ := ((AC Tryz.underlying9) : bR enc Tryz.prog w 9 (fun l : List UInt8 => [Go.Value.string (bs l)]) sOk) _ _ _ g1
  obtain rfl := List.head_eq_of_cons_eq e0
  obtain rfl := List.head_eq_of_cons_eq e1
  exact ⟨⟨z0, z1⟩, rfl, ⟨o0, o1⟩⟩
end
structure bL where
 Kind : Int
 By : Int
 Count : Int
 Seconds : Int
def bL.vals (r : bL) : List Go.Value := [.int .i64 r.Kind, .int .i64 r.By, .int .i64 r.Count, .int .i64 r.Seconds]
structure bL.ok (h : aB) (r : bL) : Prop where
 k0 : (kOk .i64) h r.Kind
 k1 : (kOk .i64) h r.By
 k2 : (kOk .i64) h r.Count
 k3 : (kOk .i64) h r.Seconds
theorem bL.ok_fr (h h' : aB) (r : bL) (f : Fr (fun _ => False) h h') (o : bL.ok h r) : bL.ok h' r :=
 ⟨o.k0, o.k1, o.k2, o.k3⟩
section
open Go.ChangeShapes Go.WideShapes Go.ChangeAt Go.RowKit
variable {H : Type} {enc : TypeId × Go.Value → H} {w : World}
set_option maxRecDepth 100000 in
theorem bL.op : bR enc Tryz.prog w vF bL.vals bL.ok := fun fuel cs x h => by
 obtain ⟨xs, n, rfl, hx, hl, hxl, hf⟩ := DataW.trod_struct Tryz.underlying59 h
 rw [show Tryz.prog.cellsOf 59 = 4 from by kernel_rfl] at hl
 match xs, hxl, cs, hl with
 | [y0, y1, y2, y3], _, [v0, v1, v2, v3], _ =>
  have g0 : DataW.trod enc Tryz.prog w 0 (fun _ => true) true n 3 (([v0, v1, v2, v3].drop 0).take (Tryz.prog.cellsOf 3)) = some y0 := hf 0 _ rfl
  rw [show Tryz.prog.cellsOf 3 = 1 from by kernel_rfl] at g0
  obtain ⟨z0, e0, o0⟩ := ((eY Tryz.underlying3) : bR enc Tryz.prog w 3 (fun n : Int => [Go.Value.int .i64 n]) (kOk .i64)) _ _ _ g0
  have g1 : DataW.trod enc Tryz.prog w 0 (fun _ => true) true n 3 (([v0, v1, v2, v3].drop 1).take (Tryz.prog.cellsOf 3)) = some y1 := hf 1 _ rfl
  rw [show Tryz.prog.cellsOf 3 = 1 from by kernel_rfl] at g1
  obtain ⟨z1, e1, o1⟩ := ((eY Tryz.underlying3) : bR enc Tryz.prog w 3 (fun n : Int => [Go.Value.int .i64 n]) (kOk .i64)) _ _ _ g1
  have g2 : DataW.trod enc Tryz.prog w 0 (fun _ => true) true n 3 (([v0, v1, v2, v3].drop 2).take (Tryz.prog.cellsOf 3)) = some y2 := hf 2 _ rfl
  rw [show Tryz.prog.cellsOf 3 = 1 from by kernel_rfl] at g2
  obtain ⟨z2, e2, o2⟩ := ((eY Tryz.underlying3) : bR enc Tryz.prog w 3 (fun n : Int => [Go.Value.int .i64 n]) (kOk .i64)) _ _ _ g2
  have g3 : DataW.trod enc Tryz.prog w 0 (fun _ => true) true n 3 (([v0, v1, v2, v3].drop 3).take (Tryz.prog.cellsOf 3)) = some y3 := hf 3 _ rfl
  rw [show Tryz.prog.cellsOf 3 = 1 from by kernel_rfl] at g3
  obtain ⟨z3, e3, o3⟩ := ((eY Tryz.underlying3) : bR enc Tryz.prog w 3 (fun n : Int => [Go.Value.int .i64 n]) (kOk .i64)) _ _ _ g3
  obtain rfl := List.head_eq_of_cons_eq e0
  obtain rfl := List.head_eq_of_cons_eq e1
  obtain rfl := List.head_eq_of_cons_eq e2
  obtain rfl := List.head_eq_of_cons_eq e3
  exact ⟨⟨z0, z1, z2, z3⟩, rfl, ⟨o0, o1, o2, o3⟩⟩
end
structure aJ where
 Action : Int
 Proto : Int
 Src : Sl aO
 Dst : Sl aO
 SrcPorts : Sl aN
 DstPorts : Sl aN
 Both : Bool
 Sid : Int
 Rev : Int
 Priority : Int
 Msg : List UInt8
 Dir : Int
 Kind : Int
 Transforms : Sl Int
 Contents : Sl aI
 Tests : Sl bO
 Flow : Sl bB
 Threshold : bL
def aJ.vals (r : aJ) : List Go.Value := [.int .i64 r.Action, .int .i64 r.Proto, .slice r.Src.p r.Src.xs.length r.Src.cap, .slice r.Dst.p r.Dst.xs.length r.Dst.cap, .slice r.SrcPorts.p r.SrcPorts.xs.length r.SrcPorts.cap, .slice r.DstPorts.p r.DstPorts.xs.length r.DstPorts.cap, .bool r.Both, .int .i64 r.Sid, .int .i64 r.Rev, .int .i64 r.Priority, .string (bs r.Msg), .int .i64 r.Dir, .int .i64 r.Kind, .slice r.Transforms.p r.Transforms.xs.length r.Transforms.cap, .slice r.Contents.p r.Contents.xs.length r.Contents.cap, .slice r.Tests.p r.Tests.xs.length r.Tests.cap, .slice r.Flow.p r.Flow.xs.length r.Flow.cap, .int .i64 r.Threshold.Kind, .int .i64 r.Threshold.By, .int .i64 r.Threshold.Count, .int .i64 r.Threshold.Seconds]
structure aJ.ok (h : aB) (r : aJ) : Prop where
 k0 : (kOk .i64) h r.Action
 k1 : (kOk .i64) h r.Proto
 k2 : (bH 6 aO.vals aO.ok) h r.Src
 k3 : (bH 6 aO.vals aO.ok) h r.Dst
 k4 : (bH 4 aN.vals aN.ok) h r.SrcPorts
 k5 : (bH 4 aN.vals aN.ok) h r.DstPorts
 k6 : bOk h r.Both
 k7 : (kOk .i64) h r.Sid
 k8 : (kOk .i64) h r.Rev
 k9 : (kOk .i64) h r.Priority
 k10 : sOk h r.Msg
 k11 : (kOk .i64) h r.Dir
 k12 : (kOk .i64) h r.Kind
 k13 : (bH 1 (fun n : Int => [Go.Value.int .i64 n]) (kOk .i64)) h r.Transforms
 k14 : (bH 7 aI.vals aI.ok) h r.Contents
 k15 : (bH 7 bO.vals bO.ok) h r.Tests
 k16 : (bH 2 bB.vals bB.ok) h r.Flow
 k17 : bL.ok h r.Threshold
theorem aJ.ok_fr (h h' : aB) (r : aJ) (f : Fr (fun _ => False) h h') (o : aJ.ok h r) : aJ.ok h' r :=
 ⟨o.k0, o.k1, (pI aO.ok_fr) _ _ _ f o.k2, (pI aO.ok_fr) _ _ _ f o.k3, (pI aN.ok_fr) _ _ _ f o.k4, (pI aN.ok_fr) _ _ _ f o.k5, o.k6, o.k7, o.k8, o.k9, o.k10, o.k11, o.k12, (pI wS) _ _ _ f o.k13, (pI aI.ok_fr) _ _ _ f o.k14, (pI bO.ok_fr) _ _ _ f o.k15, (pI bB.ok_fr) _ _ _ f o.k16, bL.ok_fr _ _ _ f o.k17⟩
section
open Go.ChangeShapes Go.WideShapes Go.ChangeAt Go.RowKit
variable {H : Type} {enc : TypeId × Go.Value → H} {w : World}
set_option maxRecDepth 100000 in
theorem aJ.op : bR enc Tryz.prog w cH aJ.vals aJ.ok := fun fuel cs x h => by
 obtain ⟨xs, n, rfl, hx, hl, hxl, hf⟩ := DataW.trod_struct Tryz.underlying61 h
 rw [show Tryz.prog.cellsOf 61 = 21 from by kernel_rfl] at hl
 match xs, hxl, cs, hl with
 | [y0, y1, y2, y3, y4, y5, y6, y7, y8, y9, y10, y11, y12, y13, y14, y15, y16, y17], _, [v0, v1, v2, v3, v4, v5, v6, v7, v8, v9, v10, v11, v12, v13, v14, v15, v16, v17, v18, v19, v20], _ =>
  have g0 : DataW.trod enc Tryz.prog w 0 (fun _ => true) true n 3 (([v0, v1, v2, v3, v4, v5, v6, v7, v8, v9, v10, v11, v12, v13, v14, v15, v16, v17, v18, v19, v20].drop 0).take (Tryz.prog.cellsOf 3)) = some y0 := hf 0 _ rfl
  rw [show Tryz.prog.cellsOf 3 = 1 from by kernel_rfl] at g0
  obtain ⟨z0, e0, o0⟩ := ((eY Tryz.underlying3) : bR enc Tryz.prog w 3 (fun n : Int => [Go.Value.int .i64 n]) (kOk .i64)) _ _ _ g0
  have g1 : DataW.trod enc Tryz.prog w 0 (fun _ => true) true n 3 (([v0, v1, v2, v3, v4, v5, v6, v7, v8, v9, v10, v11, v12, v13, v14, v15, v16, v17, v18, v19, v20].drop 1).take (Tryz.prog.cellsOf 3)) = some y1 := hf 1 _ rfl
  rw [show Tryz.prog.cellsOf 3 = 1 from by kernel_rfl] at g1
  obtain ⟨z1, e1, o1⟩ := ((eY Tryz.underlying3) : bR enc Tryz.prog w 3 (fun n : Int => [Go.Value.int .i64 n]) (kOk .i64)) _ _ _ g1
  have g2 : DataW.trod enc Tryz.prog w 0 (fun _ => true) true n 53 (([v0, v1, v2, v3, v4, v5, v6, v7, v8, v9, v10, v11, v12, v13, v14, v15, v16, v17, v18, v19, v20].drop 2).take (Tryz.prog.cellsOf 53)) = some y2 := hf 2 _ rfl
  rw [show Tryz.prog.cellsOf 53 = 1 from by kernel_rfl] at g2
  obtain ⟨z2, e2, o2⟩ := ((sK Tryz.underlying53 (by kernel_rfl) (fun _ => rfl) aO.op) : bR enc Tryz.prog w 53 (fun s : Sl aO => [s.v]) (bH 6 aO.vals aO.ok)) _ _ _ g2
  have g3 : DataW.trod enc Tryz.prog w 0 (fun _ => true) true n 53 (([v0, v1, v2, v3, v4, v5, v6, v7, v8, v9, v10, v11, v12, v13, v14, v15, v16, v17, v18, v19, v20].drop 3).take (Tryz.prog.cellsOf 53)) = some y3 := hf 3 _ rfl
  rw [show Tryz.prog.cellsOf 53 = 1 from by kernel_rfl] at g3
  obtain ⟨z3, e3, o3⟩ := ((sK Tryz.underlying53 (by kernel_rfl) (fun _ => rfl) aO.op) : bR enc Tryz.prog w 53 (fun s : Sl aO => [s.v]) (bH 6 aO.vals aO.ok)) _ _ _ g3
  have g4 : DataW.trod enc Tryz.prog w 0 (fun _ => true) true n 54 (([v0, v1, v2, v3, v4, v5, v6, v7, v8, v9, v10, v11, v12, v13, v14, v15, v16, v17, v18, v19, v20].drop 4).take (Tryz.prog.cellsOf 54)) = some y4 := hf 4 _ rfl
  rw [show Tryz.prog.cellsOf 54 = 1 from by kernel_rfl] at g4
  obtain ⟨z4, e4, o4⟩ := ((sK Tryz.underlying54 (by kernel_rfl) (fun _ => rfl) aN.op) : bR enc Tryz.prog w 54 (fun s : Sl aN => [s.v]) (bH 4 aN.vals aN.ok)) _ _ _ g4
  have g5 : DataW.trod enc Tryz.prog w 0 (fun _ => true) true n 54 (([v0, v1, v2, v3, v4, v5, v6, v7, v8, v9, v10, v11, v12, v13, v14, v15, v16, v17, v18, v19, v20].drop 5).take (Tryz.prog.cellsOf 54)) = some y5 := hf 5 _ rfl
  rw [show Tryz.prog.cellsOf 54 = 1 from by kernel_rfl] at g5
  obtain ⟨z5, e5, o5⟩ := ((sK Tryz.underlying54 (by kernel_rfl) (fun _ => rfl) aN.op) : bR enc Tryz.prog w 54 (fun s : Sl aN => [s.v]) (bH 4 aN.vals aN.ok)) _ _ _ g5
  have g6 : DataW.trod enc Tryz.prog w 0 (fun _ => true) true n 4 (([v0, v1, v2, v3, v4, v5, v6, v7, v8, v9, v10, v11, v12, v13, v14, v15, v16, v17, v18, v19, v20].drop 6).take (Tryz.prog.cellsOf 4)) = some y6 := hf 6 _ rfl
  rw [show Tryz.prog.cellsOf 4 = 1 from by kernel_rfl] at g6
  obtain ⟨z6, e6, o6⟩ := ((oS Tryz.underlying4) : bR enc Tryz.prog w 4 (fun n : Bool => [Go.Value.bool n]) bOk) _ _ _ g6
  have g7 : DataW.trod enc Tryz.prog w 0 (fun _ => true) true n 3 (([v0, v1, v2, v3, v4, v5, v6, v7, v8, v9, v10, v11, v12, v13, v14, v15, v16, v17, v18, v19, v20].drop 7).take (Tryz.prog.cellsOf 3)) = some y7 := hf 7 _ rfl
  rw [show Tryz.prog.cellsOf 3 = 1 from by kernel_rfl] at g7
  obtain ⟨z7, e7, o7⟩ := ((eY Tryz.underlying3) : bR enc Tryz.prog w 3 (fun n : Int => [Go.Value.int .i64 n]) (kOk .i64)) _ _ _ g7
  have g8 : DataW.trod enc Tryz.prog w 0 (fun _ => true) true n 3 (([v0, v1, v2, v3, v4, v5, v6, v7, v8, v9, v10, v11, v12, v13, v14, v15, v16, v17, v18, v19, v20].drop 8).take (Tryz.prog.cellsOf 3)) = some y8 := hf 8 _ rfl
  rw [show Tryz.prog.cellsOf 3 = 1 from by kernel_rfl] at g8
  obtain ⟨z8, e8, o8⟩ := ((eY Tryz.underlying3) : bR enc Tryz.prog w 3 (fun n : Int => [Go.Value.int .i64 n]) (kOk .i64)) _ _ _ g8
  have g9 : DataW.trod enc Tryz.prog w 0 (fun _ => true) true n 3 (([v0, v1, v2, v3, v4, v5, v6, v7, v8, v9, v10, v11, v12, v13, v14, v15, v16, v17, v18, v19, v20].drop 9).take (Tryz.prog.cellsOf 3)) = some y9 := hf 9 _ rfl
  rw [show Tryz.prog.cellsOf 3 = 1 from by kernel_rfl] at g9
  obtain ⟨z9, e9, o9⟩ := ((eY Tryz.underlying3) : bR enc Tryz.prog w 3 (fun n : Int => [Go.Value.int .i64 n]) (kOk .i64)) _ _ _ g9
  have g10 : DataW.trod enc Tryz.prog w 0 (fun _ => true) true n 9 (([v0, v1, v2, v3, v4, v5, v6, v7, v8, v9, v10, v11, v12, v13, v14, v15, v16, v17, v18, v19, v20].drop 10).take (Tryz.prog.cellsOf 9)) = some y10 := hf 10 _ rfl
  rw [show Tryz.prog.cellsOf 9 = 1 from by kernel_rfl] at g10
  obtain ⟨z10, e10, o10⟩ := ((AC Tryz.underlying9) : bR enc Tryz.prog w 9 (fun l : List UInt8 => [Go.Value.string (bs l)]) sOk) _ _ _ g10
  have g11 : DataW.trod enc Tryz.prog w 0 (fun _ => true) true n 3 (([v0, v1, v2, v3, v4, v5, v6, v7, v8, v9, v10, v11, v12, v13, v14, v15, v16, v17, v18, v19, v20].drop 11).take (Tryz.prog.cellsOf 3)) = some y11 := hf 11 _ rfl
  rw [show Tryz.prog.cellsOf 3 = 1 from by kernel_rfl] at g11
  obtain ⟨z11, e11, o11⟩ := ((eY Tryz.underlying3) : bR enc Tryz.prog w 3 (fun n : Int => [Go.Value.int .i64 n]) (kOk .i64)) _ _ _ g11
  have g12 : DataW.trod enc Tryz.prog w 0 (fun _ => true) true n 3 (([v0, v1, v2, v3, v4, v5, v6, v7, v8, v9, v10, v11, v12, v13, v14, v15, v16, v17, v18, v19, v20].drop 12).take (Tryz.prog.cellsOf 3)) = some y12 := hf 12 _ rfl
  rw [show Tryz.prog.cellsOf 3 = 1 from by kernel_rfl] at g12
  obtain ⟨z12, e12, o12⟩ := ((eY Tryz.underlying3) : bR enc Tryz.prog w 3 (fun n : Int => [Go.Value.int .i64 n]) (kOk .i64)) _ _ _ g12
  have g13 : DataW.trod enc Tryz.prog w 0 (fun _ => true) true n 46 (([v0, v1, v2, v3, v4, v5, v6, v7, v8, v9, v10, v11, v12, v13, v14, v15, v16, v17, v18, v19, v20].drop 13).take (Tryz.prog.cellsOf 46)) = some y13 := hf 13 _ rfl
  rw [show Tryz.prog.cellsOf 46 = 1 from by kernel_rfl] at g13
  obtain ⟨z13, e13, o13⟩ := ((sK Tryz.underlying46 (by kernel_rfl) (fun _ => rfl) (eY Tryz.underlying3)) : bR enc Tryz.prog w 46 (fun s : Sl Int => [s.v]) (bH 1 (fun n : Int => [Go.Value.int .i64 n]) (kOk .i64))) _ _ _ g13
  have g14 : DataW.trod enc Tryz.prog w 0 (fun _ => true) true n 55 (([v0, v1, v2, v3, v4, v5, v6, v7, v8, v9, v10, v11, v12, v13, v14, v15, v16, v17, v18, v19, v20].drop 14).take (Tryz.prog.cellsOf 55)) = some y14 := hf 14 _ rfl
  rw [show Tryz.prog.cellsOf 55 = 1 from by kernel_rfl] at g14
  obtain ⟨z14, e14, o14⟩ := ((sK Tryz.underlying55 (by kernel_rfl) (fun _ => rfl) aI.op) : bR enc Tryz.prog w 55 (fun s : Sl aI => [s.v]) (bH 7 aI.vals aI.ok)) _ _ _ g14
  have g15 : DataW.trod enc Tryz.prog w 0 (fun _ => true) true n 56 (([v0, v1, v2, v3, v4, v5, v6, v7, v8, v9, v10, v11, v12, v13, v14, v15, v16, v17, v18, v19, v20].drop 15).take (Tryz.prog.cellsOf 56)) = some y15 := hf 15 _ rfl
  rw [show Tryz.prog.cellsOf 56 = 1 from by kernel_rfl] at g15
  obtain ⟨z15, e15, o15⟩ := ((sK Tryz.underlying56 (by kernel_rfl) (fun _ => rfl) bO.op) : bR enc Tryz.prog w 56 (fun s : Sl bO => [s.v]) (bH 7 bO.vals bO.ok)) _ _ _ g15
  have g16 : DataW.trod enc Tryz.prog w 0 (fun _ => true) true n 57 (([v0, v1, v2, v3, v4, v5, v6, v7, v8, v9, v10, v11, v12, v13, v14, v15, v16, v17, v18, v19, v20].drop 16).take (Tryz.prog.cellsOf 57)) = some y16 := hf 16 _ rfl
  rw [show Tryz.prog.cellsOf 57 = 1 from by kernel_rfl] at g16
  obtain ⟨z16, e16, o16⟩ := ((sK Tryz.underlying57 (by kernel_rfl) (fun _ => rfl) bB.op) : bR enc Tryz.prog w 57 (fun s : Sl bB => [s.v]) (bH 2 bB.vals bB.ok)) _ _ _ g16
  have g17 : DataW.trod enc Tryz.prog w 0 (fun _ => true) true n 59 (([v0, v1, v2, v3, v4, v5, v6, v7, v8, v9, v10, v11, v12, v13, v14, v15, v16, v17, v18, v19, v20].drop 17).take (Tryz.prog.cellsOf 59)) = some y17 := hf 17 _ rfl
  rw [show Tryz.prog.cellsOf 59 = 4 from by kernel_rfl] at g17
  obtain ⟨z17, e17, o17⟩ := (bL.op : bR enc Tryz.prog w 59 bL.vals bL.ok) _ _ _ g17
  obtain rfl := List.head_eq_of_cons_eq e0
  obtain rfl := List.head_eq_of_cons_eq e1
  obtain rfl := List.head_eq_of_cons_eq e2
  obtain rfl := List.head_eq_of_cons_eq e3
  obtain rfl := List.head_eq_of_cons_eq e4
  obtain rfl := List.head_eq_of_cons_eq e5
  obtain rfl := List.head_eq_of_cons_eq e6
  obtain rfl := List.head_eq_of_cons_eq e7
  obtain rfl := List.head_eq_of_cons_eq e8
  obtain rfl := List.head_eq_of_cons_eq e9
  obtain rfl := List.head_eq_of_cons_eq e10
  obtain rfl := List.head_eq_of_cons_eq e11
  obtain rfl := List.head_eq_of_cons_eq e12
  obtain rfl := List.head_eq_of_cons_eq e13
  obtain rfl := List.head_eq_of_cons_eq e14
  obtain rfl := List.head_eq_of_cons_eq e15
  obtain rfl := List.head_eq_of_cons_eq e16
  have e17 : [v17, v18, v19, v20] = bL.vals z17 := e17
  simp only [bL.vals, List.cons.injEq, and_true] at e17
  obtain ⟨rfl, rfl, rfl, rfl⟩ := e17
  exact ⟨⟨z0, z1, z2, z3, z4, z5, z6, z7, z8, z9, z10, z11, z12, z13, z14, z15, z16, z17⟩, rfl, ⟨o0, o1, o2, o3, o4, o5, o6, o7, o8, o9, o10, o11, o12, o13, o14, o15, o16, o17⟩⟩
end
structure aK where
 Lo : aL
 Hi : aL
def aK.vals (r : aK) : List Go.Value := [.bool r.Lo.V6, .int .u64 r.Lo.Hi, .int .u64 r.Lo.Lo, .bool r.Hi.V6, .int .u64 r.Hi.Hi, .int .u64 r.Hi.Lo]
structure aK.ok (h : aB) (r : aK) : Prop where
 k0 : aL.ok h r.Lo
 k1 : aL.ok h r.Hi
theorem aK.ok_fr (h h' : aB) (r : aK) (f : Fr (fun _ => False) h h') (o : aK.ok h r) : aK.ok h' r :=
 ⟨aL.ok_fr _ _ _ f o.k0, aL.ok_fr _ _ _ f o.k1⟩
section
open Go.ChangeShapes Go.WideShapes Go.ChangeAt Go.RowKit
variable {H : Type} {enc : TypeId × Go.Value → H} {w : World}
set_option maxRecDepth 100000 in
theorem aK.op : bR enc Tryz.prog w lN aK.vals aK.ok := fun fuel cs x h => by
 obtain ⟨xs, n, rfl, hx, hl, hxl, hf⟩ := DataW.trod_struct Tryz.underlying152 h
 rw [show Tryz.prog.cellsOf 152 = 6 from by kernel_rfl] at hl
 match xs, hxl, cs, hl with
 | [y0, y1], _, [v0, v1, v2, v3, v4, v5], _ =>
  have g0 : DataW.trod enc Tryz.prog w 0 (fun _ => true) true n 25 (([v0, v1, v2, v3, v4, v5].drop 0).take (Tryz.prog.cellsOf 25)) = some y0 := hf 0 _ rfl
  rw [show Tryz.prog.cellsOf 25 = 3 from by kernel_rfl] at g0
  obtain ⟨z0, e0, o0⟩ := (aL.op : bR enc Tryz.prog w 25 aL.vals aL.ok) _ _ _ g0
  have g1 : DataW.trod enc Tryz.prog w 0 (fun _ => true) true n 25 (([v0, v1, v2, v3, v4, v5].drop 3).take (Tryz.prog.cellsOf 25)) = some y1 := hf 1 _ rfl
  rw [show Tryz.prog.cellsOf 25 = 3 from by kernel_rfl] at g1
  obtain ⟨z1, e1, o1⟩ := (aL.op : bR enc Tryz.prog w 25 aL.vals aL.ok) _ _ _ g1
  have e0 : [v0, v1, v2] = aL.vals z0 := e0
  simp only [aL.vals, List.cons.injEq, and_true] at e0
  obtain ⟨rfl, rfl, rfl⟩ := e0
  have e1 : [v3, v4, v5] = aL.vals z1 := e1
  simp only [aL.vals, List.cons.injEq, and_true] at e1
  obtain ⟨rfl, rfl, rfl⟩ := e1
  exact ⟨⟨z0, z1⟩, rfl, ⟨o0, o1⟩⟩
end
structure aP where
 Lo : Int
 Hi : Int
def aP.vals (r : aP) : List Go.Value := [.int .i64 r.Lo, .int .i64 r.Hi]
structure aP.ok (h : aB) (r : aP) : Prop where
 k0 : (kOk .i64) h r.Lo
 k1 : (kOk .i64) h r.Hi
theorem aP.ok_fr (h h' : aB) (r : aP) (f : Fr (fun _ => False) h h') (o : aP.ok h r) : aP.ok h' r :=
 ⟨o.k0, o.k1⟩
section
open Go.ChangeShapes Go.WideShapes Go.ChangeAt Go.RowKit
variable {H : Type} {enc : TypeId × Go.Value → H} {w : World}
set_option maxRecDepth 100000 in
theorem aP.op : bR enc Tryz.prog w rI aP.vals aP.ok := fun fuel cs x h => by
 obtain ⟨xs, n, rfl, hx, hl, hxl, hf⟩ := DataW.trod_struct Tryz.underlying155 h
 rw [show Tryz.prog.cellsOf 155 = 2 from by kernel_rfl] at hl
 match xs, hxl, cs, hl with
 | [y0, y1], _, [v0, v1], _ =>
  have g0 : DataW.trod enc Tryz.prog w 0 (fun _ => true) true n 3 (([v0, v1].drop 0).take (Tryz.prog.cellsOf 3)) = some y0 := hf 0 _ rfl
  rw [show Tryz.prog.cellsOf 3 = 1 from by kernel_rfl] at g0
  obtain ⟨z0, e0, o0⟩ := ((eY Tryz.underlying3) : bR enc Tryz.prog w 3 (fun n : Int => [Go.Value.int .i64 n]) (kOk .i64)) _ _ _ g0
  have g1 : DataW.trod enc Tryz.prog w 0 (fun _ => true) true n 3 (([v0, v1].drop 1).take (Tryz.prog.cellsOf 3)) = some y1 := hf 1 _ rfl
  rw [show Tryz.prog.cellsOf 3 = 1 from by kernel_rfl] at g1
  obtain ⟨z1, e1, o1⟩ := ((eY Tryz.underlying3) : bR enc Tryz.prog w 3 (fun n : Int => [Go.Value.int .i64 n]) (kOk .i64)) _ _ _ g1
  obtain rfl := List.head_eq_of_cons_eq e0
  obtain rfl := List.head_eq_of_cons_eq e1
  exact ⟨⟨z0, z1⟩, rfl, ⟨o0, o1⟩⟩
end
structure aE where
 Rule : aJ
 Src : Sl aK
 Dst : Sl aK
 SrcPorts : Sl aP
 DstPorts : Sl aP
def aE.vals (r : aE) : List Go.Value := [.int .i64 r.Rule.Action, .int .i64 r.Rule.Proto, .slice r.Rule.Src.p r.Rule.Src.xs.length r.Rule.Src.cap, .slice r.Rule.Dst.p r.Rule.Dst.xs.length r.Rule.Dst.cap, .slice r.Rule.SrcPorts.p r.Rule.SrcPorts.xs.length r.Rule.SrcPorts.cap, .slice r.Rule.DstPorts.p r.Rule.DstPorts.xs.length r.Rule.DstPorts.cap, .bool r.Rule.Both, .int .i64 r.Rule.Sid, .int .i64 r.Rule.Rev, .int .i64 r.Rule.Priority, .string (bs r.Rule.Msg), .int .i64 r.Rule.Dir, .int .i64 r.Rule.Kind, .slice r.Rule.Transforms.p r.Rule.Transforms.xs.length r.Rule.Transforms.cap, .slice r.Rule.Contents.p r.Rule.Contents.xs.length r.Rule.Contents.cap, .slice r.Rule.Tests.p r.Rule.Tests.xs.length r.Rule.Tests.cap, .slice r.Rule.Flow.p r.Rule.Flow.xs.length r.Rule.Flow.cap, .int .i64 r.Rule.Threshold.Kind, .int .i64 r.Rule.Threshold.By, .int .i64 r.Rule.Threshold.Count, .int .i64 r.Rule.Threshold.Seconds, .slice r.Src.p r.Src.xs.length r.Src.cap, .slice r.Dst.p r.Dst.xs.length r.Dst.cap, .slice r.SrcPorts.p r.SrcPorts.xs.length r.SrcPorts.cap, .slice r.DstPorts.p r.DstPorts.xs.length r.DstPorts.cap]
structure aE.ok (h : aB) (r : aE) : Prop where
 k0 : aJ.ok h r.Rule
 k1 : (bH 6 aK.vals aK.ok) h r.Src
 k2 : (bH 6 aK.vals aK.ok) h r.Dst
 k3 : (bH 2 aP.vals aP.ok) h r.SrcPorts
 k4 : (bH 2 aP.vals aP.ok) h r.DstPorts
theorem aE.ok_fr (h h' : aB) (r : aE) (f : Fr (fun _ => False) h h') (o : aE.ok h r) : aE.ok h' r :=
 ⟨aJ.ok_fr _ _ _ f o.k0, (pI aK.ok_fr) _ _ _ f o.k1, (pI aK.ok_fr) _ _ _ f o.k2, (pI aP.ok_fr) _ _ _ f o.k3, (pI aP.ok_fr) _ _ _ f o.k4⟩
section
open Go.ChangeShapes Go.WideShapes Go.ChangeAt Go.RowKit
variable {H : Type} {enc : TypeId × Go.Value → H} {w : World}
set_option maxRecDepth 100000 in
theorem aE.op : bR enc Tryz.prog w cD aE.vals aE.ok := fun fuel cs x h => by
 obtain ⟨xs, n, rfl, hx, hl, hxl, hf⟩ := DataW.trod_struct Tryz.underlying65 h
 rw [show Tryz.prog.cellsOf 65 = 25 from by kernel_rfl] at hl
 match xs, hxl, cs, hl with
 | [y0, y1, y2, y3, y4], _, [v0, v1, v2, v3, v4, v5, v6, v7, v8, v9, v10, v11, v12, v13, v14, v15, v16, v17, v18, v19, v20, v21, v22, v23, v24], _ =>
  have g0 : DataW.trod enc Tryz.prog w 0 (fun _ => true) true n 61 (([v0, v1, v2, v3, v4, v5, v6, v7, v8, v9, v10, v11, v12, v13, v14, v15, v16, v17, v18, v19, v20, v21, v22, v23, v24].drop 0).take (Tryz.prog.cellsOf 61)) = some y0 := hf 0 _ rfl
  rw [show Tryz.prog.cellsOf 61 = 21 from by kernel_rfl] at g0
  obtain ⟨z0, e0, o0⟩ := (aJ.op : bR enc Tryz.prog w 61 aJ.vals aJ.ok) _ _ _ g0
  have g1 : DataW.trod enc Tryz.prog w 0 (fun _ => true) true n 62 (([v0, v1, v2, v3, v4, v5, v6, v7, v8, v9, v10, v11, v12, v13, v14, v15, v16, v17, v18, v19, v20, v21, v22, v23, v24].drop 21).take (Tryz.prog.cellsOf 62)) = some y1 := hf 1 _ rfl
  rw [show Tryz.prog.cellsOf 62 = 1 from by kernel_rfl] at g1
  obtain ⟨z1, e1, o1⟩ := ((sK Tryz.underlying62 (by kernel_rfl) (fun _ => rfl) aK.op) : bR enc Tryz.prog w 62 (fun s : Sl aK => [s.v]) (bH 6 aK.vals aK.ok)) _ _ _ g1
  have g2 : DataW.trod enc Tryz.prog w 0 (fun _ => true) true n 62 (([v0, v1, v2, v3, v4, v5, v6, v7, v8, v9, v10, v11, v12, v13, v14, v15, v16, v17, v18, v19, v20, v21, v22, v23, v24].drop 22).take (Tryz.prog.cellsOf 62)) = some y2 := hf 2 _ rfl
  rw [show Tryz.prog.cellsOf 62 = 1 from by kernel_rfl] at g2
  obtain ⟨z2, e2, o2⟩ := ((sK Tryz.underlying62 (by kernel_rfl) (fun _ => rfl) aK.op) : bR enc Tryz.prog w 62 (fun s : Sl aK => [s.v]) (bH 6 aK.vals aK.ok)) _ _ _ g2
  have g3 : DataW.trod enc Tryz.prog w 0 (fun _ => true) true n 63 (([v0, v1, v2, v3, v4, v5, v6, v7, v8, v9, v10, v11, v12, v13, v14, v15, v16, v17, v18, v19, v20, v21, v22, v23, v24].drop 23).take (Tryz.prog.cellsOf 63)) = some y3 := hf 3 _ rfl
  rw [show Tryz.prog.cellsOf 63 = 1 from by kernel_rfl] at g3
  obtain ⟨z3, e3, o3⟩ := ((sK Tryz.underlying63 (by kernel_rfl) (fun _ => rfl) aP.op) : bR enc Tryz.prog w 63 (fun s : Sl aP => [s.v]) (bH 2 aP.vals aP.ok)) _ _ _ g3
  have g4 : DataW.trod enc Tryz.prog w 0 (fun _ => true) true n 63 (([v0, v1, v2, v3, v4, v5, v6, v7, v8, v9, v10, v11, v12, v13, v14, v15, v16, v17, v18, v19, v20, v21, v22, v23, v24].drop 24).take (Tryz.prog.cellsOf 63)) = some y4 := hf 4 _ rfl
  rw [show Tryz.prog.cellsOf 63 = 1 from by kernel_rfl] at g4
  obtain ⟨z4, e4, o4⟩ := ((sK Tryz.underlying63 (by kernel_rfl) (fun _ => rfl) aP.op) : bR enc Tryz.prog w 63 (fun s : Sl aP => [s.v]) (bH 2 aP.vals aP.ok)) _ _ _ g4
  have e0 : [v0, v1, v2, v3, v4, v5, v6, v7, v8, v9, v10, v11, v12, v13, v14, v15, v16, v17, v18, v19, v20] = aJ.vals z0 := e0
  simp only [aJ.vals, List.cons.injEq, and_true] at e0
  obtain ⟨rfl, rfl, rfl, rfl, rfl, rfl, rfl, rfl, rfl, rfl, rfl, rfl, rfl, rfl, rfl, rfl, rfl, rfl, rfl, rfl, rfl⟩ := e0
  obtain rfl := List.head_eq_of_cons_eq e1
  obtain rfl := List.head_eq_of_cons_eq e2
  obtain rfl := List.head_eq_of_cons_eq e3
  obtain rfl := List.head_eq_of_cons_eq e4
  exact ⟨⟨z0, z1, z2, z3, z4⟩, rfl, ⟨o0, o1, o2, o3, o4⟩⟩
end
structure aU where
 Proto : Int
 Src : aL
 Dst : aL
 Sport : Int
 Dport : Int
def aU.vals (r : aU) : List Go.Value := [.int .i64 r.Proto, .bool r.Src.V6, .int .u64 r.Src.Hi, .int .u64 r.Src.Lo, .bool r.Dst.V6, .int .u64 r.Dst.Hi, .int .u64 r.Dst.Lo, .int .i64 r.Sport, .int .i64 r.Dport]
structure aU.ok (h : aB) (r : aU) : Prop where
 k0 : (kOk .i64) h r.Proto
 k1 : aL.ok h r.Src
 k2 : aL.ok h r.Dst
 k3 : (kOk .i64) h r.Sport
 k4 : (kOk .i64) h r.Dport
section
open Go.ChangeShapes Go.WideShapes Go.ChangeAt Go.RowKit
variable {H : Type} {enc : TypeId × Go.Value → H} {w : World}
set_option maxRecDepth 100000 in
theorem aU.op : bR enc Tryz.prog w gA aU.vals aU.ok := fun fuel cs x h => by
 obtain ⟨xs, n, rfl, hx, hl, hxl, hf⟩ := DataW.trod_struct Tryz.underlying27 h
 rw [show Tryz.prog.cellsOf 27 = 9 from by kernel_rfl] at hl
 match xs, hxl, cs, hl with
 | [y0, y1, y2, y3, y4], _, [v0, v1, v2, v3, v4, v5, v6, v7, v8], _ =>
  have g0 : DataW.trod enc Tryz.prog w 0 (fun _ => true) true n 3 (([v0, v1, v2, v3, v4, v5, v6, v7, v8].drop 0).take (Tryz.prog.cellsOf 3)) = some y0 := hf 0 _ rfl
  rw [show Tryz.prog.cellsOf 3 = 1 from by kernel_rfl] at g0
  obtain ⟨z0, e0, o0⟩ := ((eY Tryz.underlying3) : bR enc Tryz.prog w 3 (fun n : Int => [Go.Value.int .i64 n]) (kOk .i64)) _ _ _ g0
  have g1 : DataW.trod enc Tryz.prog w 0 (fun _ => true) true n 25 (([v0, v1, v2, v3, v4, v5, v6, v7, v8].drop 1).take (Tryz.prog.cellsOf 25)) = some y1 := hf 1 _ rfl
  rw [show Tryz.prog.cellsOf 25 = 3 from by kernel_rfl] at g1
  obtain ⟨z1, e1, o1⟩ := (aL.op : bR enc Tryz.prog w 25 aL.vals aL.ok) _ _ _ g1
  have g2 : DataW.trod enc Tryz.prog w 0 (fun _ => true) true n 25 (([v0, v1, v2, v3, v4, v5, v6, v7, v8].drop 4).take (Tryz.prog.cellsOf 25)) = some y2 := hf 2 _ rfl
  rw [show Tryz.prog.cellsOf 25 = 3 from by kernel_rfl] at g2
  obtain ⟨z2, e2, o2⟩ := (aL.op : bR enc Tryz.prog w 25 aL.vals aL.ok) _ _ _ g2
  have g3 : DataW.trod enc Tryz.prog w 0 (fun _ => true) true n 3 (([v0, v1, v2, v3, v4, v5, v6, v7, v8].drop 7).take (Tryz.prog.cellsOf 3)) = some y3 := hf 3 _ rfl
  rw [show Tryz.prog.cellsOf 3 = 1 from by kernel_rfl] at g3
  obtain ⟨z3, e3, o3⟩ := ((eY Tryz.underlying3) : bR enc Tryz.prog w 3 (fun n : Int => [Go.Value.int .i64 n]) (kOk .i64)) _ _ _ g3
  have g4 : DataW.trod enc Tryz.prog w 0 (fun _ => true) true n 3 (([v0, v1, v2, v3, v4, v5, v6, v7, v8].drop 8).take (Tryz.prog.cellsOf 3)) = some y4 := hf 4 _ rfl
  rw [show Tryz.prog.cellsOf 3 = 1 from by kernel_rfl] at g4
  obtain ⟨z4, e4, o4⟩ := ((eY Tryz.underlying3) : bR enc Tryz.prog w 3 (fun n : Int => [Go.Value.int .i64 n]) (kOk .i64)) _ _ _ g4
  obtain rfl := List.head_eq_of_cons_eq e0
  have e1 : [v1, v2, v3] = aL.vals z1 := e1
  simp only [aL.vals, List.cons.injEq, and_true] at e1
  obtain ⟨rfl, rfl, rfl⟩ := e1
  have e2 : [v4, v5, v6] = aL.vals z2 := e2
  simp only [aL.vals, List.cons.injEq, and_true] at e2
  obtain ⟨rfl, rfl, rfl⟩ := e2
  obtain rfl := List.head_eq_of_cons_eq e3
  obtain rfl := List.head_eq_of_cons_eq e4
  exact ⟨⟨z0, z1, z2, z3, z4⟩, rfl, ⟨o0, o1, o2, o3, o4⟩⟩
end
structure aQ where
 Kind : Int
 Dir : Int
 L : Sl (List UInt8)
def aQ.vals (r : aQ) : List Go.Value := [.int .i64 r.Kind, .int .i64 r.Dir, .slice r.L.p r.L.xs.length r.L.cap]
structure aQ.ok (h : aB) (r : aQ) : Prop where
 k0 : (kOk .i64) h r.Kind
 k1 : (kOk .i64) h r.Dir
 k2 : (bH 1 (fun l : List UInt8 => [Go.Value.string (bs l)]) sOk) h r.L
theorem aQ.ok_fr (h h' : aB) (r : aQ) (f : Fr (fun _ => False) h h') (o : aQ.ok h r) : aQ.ok h' r :=
 ⟨o.k0, o.k1, (pI wS) _ _ _ f o.k2⟩
section
open Go.ChangeShapes Go.WideShapes Go.ChangeAt Go.RowKit
variable {H : Type} {enc : TypeId × Go.Value → H} {w : World}
set_option maxRecDepth 100000 in
theorem aQ.op : bR enc Tryz.prog w j6 aQ.vals aQ.ok := fun fuel cs x h => by
 obtain ⟨xs, n, rfl, hx, hl, hxl, hf⟩ := DataW.trod_struct Tryz.underlying30 h
 rw [show Tryz.prog.cellsOf 30 = 3 from by kernel_rfl] at hl
 match xs, hxl, cs, hl with
 | [y0, y1, y2], _, [v0, v1, v2], _ =>
  have g0 : DataW.trod enc Tryz.prog w 0 (fun _ => true) true n 3 (([v0, v1, v2].drop 0).take (Tryz.prog.cellsOf 3)) = some y0 := hf 0 _ rfl
  rw [show Tryz.prog.cellsOf 3 = 1 from by kernel_rfl] at g0
  obtain ⟨z0, e0, o0⟩ := ((eY Tryz.underlying3) : bR enc Tryz.prog w 3 (fun n : Int => [Go.Value.int .i64 n]) (kOk .i64)) _ _ _ g0
  have g1 : DataW.trod enc Tryz.prog w 0 (fun _ => true) true n 3 (([v0, v1, v2].drop 1).take (Tryz.prog.cellsOf 3)) = some y1 := hf 1 _ rfl
  rw [show Tryz.prog.cellsOf 3 = 1 from by kernel_rfl] at g1
  obtain ⟨z1, e1, o1⟩ := ((eY Tryz.underlying3) : bR enc Tryz.prog w 3 (fun n : Int => [Go.Value.int .i64 n]) (kOk .i64)) _ _ _ g1
  have g2 : DataW.trod enc Tryz.prog w 0 (fun _ => true) true n 28 (([v0, v1, v2].drop 2).take (Tryz.prog.cellsOf 28)) = some y2 := hf 2 _ rfl
  rw [show Tryz.prog.cellsOf 28 = 1 from by kernel_rfl] at g2
  obtain ⟨z2, e2, o2⟩ := ((sK Tryz.underlying28 (by kernel_rfl) (fun _ => rfl) (AC Tryz.underlying9)) : bR enc Tryz.prog w 28 (fun s : Sl (List UInt8) => [s.v]) (bH 1 (fun l : List UInt8 => [Go.Value.string (bs l)]) sOk)) _ _ _ g2
  obtain rfl := List.head_eq_of_cons_eq e0
  obtain rfl := List.head_eq_of_cons_eq e1
  obtain rfl := List.head_eq_of_cons_eq e2
  exact ⟨⟨z0, z1, z2⟩, rfl, ⟨o0, o1, o2⟩⟩
end
structure gQ where
 Kind : Int
 Dir : Int
 Index : Int
 Data : List UInt8
def gQ.vals (r : gQ) : List Go.Value := [.int .i64 r.Kind, .int .i64 r.Dir, .int .i64 r.Index, .string (bs r.Data)]
structure bQ where
 Text : List UInt8
 Nocase : Bool
def bQ.vals (r : bQ) : List Go.Value := [.string (bs r.Text), .bool r.Nocase]
structure bQ.ok (h : aB) (r : bQ) : Prop where
 k0 : sOk h r.Text
 k1 : bOk h r.Nocase
theorem bQ.ok_fr (h h' : aB) (r : bQ) (f : Fr (fun _ => False) h h') (o : bQ.ok h r) : bQ.ok h' r :=
 ⟨o.k0, o.k1⟩
structure bK where
 Kind : Int
 Transforms : Sl Int
 Patterns : Sl bQ
 Rules : Sl (Sl Int)
 Always : Sl Int
def bK.vals (r : bK) : List Go.Value := [.int .i64 r.Kind, .slice r.Transforms.p r.Transforms.xs.length r.Transforms.cap, .slice r.Patterns.p r.Patterns.xs.length r.Patterns.cap, .slice r.Rules.p r.Rules.xs.length r.Rules.cap, .slice r.Always.p r.Always.xs.length r.Always.cap]
structure bK.ok (h : aB) (r : bK) : Prop where
 k0 : (kOk .i64) h r.Kind
 k1 : (bH 1 (fun n : Int => [Go.Value.int .i64 n]) (kOk .i64)) h r.Transforms
 k2 : (bH 2 bQ.vals bQ.ok) h r.Patterns
 k3 : (bH 1 (fun s : Sl Int => [s.v]) (bH 1 (fun n : Int => [Go.Value.int .i64 n]) (kOk .i64))) h r.Rules
 k4 : (bH 1 (fun n : Int => [Go.Value.int .i64 n]) (kOk .i64)) h r.Always
theorem bK.ok_fr (h h' : aB) (r : bK) (f : Fr (fun _ => False) h h') (o : bK.ok h r) : bK.ok h' r :=
 ⟨o.k0, (pI wS) _ _ _ f o.k1, (pI bQ.ok_fr) _ _ _ f o.k2, (pI (pI wS)) _ _ _ f o.k3, (pI wS) _ _ _ f o.k4⟩
end Go.Proofs.YtjmfpeiidlpngaaGreatDoor
namespace Go.Proofs.YtjmfpeiidlpngaaGreatDoor.Au
set_option linter.unusedSimpArgs false
set_option linter.unusedVariables false
set_option maxRecDepth 20000
open Go
open Go.IntKind (wrap)
abbrev Cn := aI
abbrev Ts := bO
def qo (d : Nm) (p k : Nat) : Nm := (d.drop p).take k
def atB (c : Cn) (d : Nm) (p : Int) : Bool :=
 decide (0 ≤ p ∧ p + c.Pattern.length ≤ d.length) && (if c.Nocase = true then decide (cL (qo d p.toNat c.Pattern.length) = cL c.Pattern) else decide (qo d p.toNat c.Pattern.length = c.Pattern))
theorem NF {a b : Nm} (i : Nat) (ha : i < a.length) (hb : i < b.length) (h : bG (fR a[i]) ≠ bG (fR b[i])) : cL a ≠ cL b := fun e => by
 have h1 : (cL a)[i]? = (cL b)[i]? := by rw [e]
 unfold cL at h1
 rw [List.getElem?_map, List.getElem?_map, List.getElem?_eq_getElem ha, List.getElem?_eq_getElem hb] at h1
 exact h (congrArg bG (Option.some.inj h1))
def atT (t : Ts) (cur : Int) : Int := if t.Relative = true then t.Offset + cur else t.Offset
def NY (t : Ts) (d : Nm) (cur : Int) : Prop := (t.Size = 1 ∨ t.Size = 2 ∨ t.Size = 4) ∧ 0 ≤ atT t cur ∧ atT t cur + t.Size ≤ d.length
instance (t : Ts) (d : Nm) (cur : Int) : Decidable (NY t d cur) := by unfold NY; exact inferInstance
theorem xb {d : Nm} {i : Nat} (h : i < d.length) : d.getD i 0 = d[i] := by rw [List.getD_eq_getElem?_getD, List.getElem?_eq_getElem h]; rfl
end Go.Proofs.YtjmfpeiidlpngaaGreatDoor.Au
namespace Go.Proofs.YtjmfpeiidlpngaaGreatDoor.Au
set_option linter.unusedSimpArgs false
set_option linter.unusedVariables false
set_option maxRecDepth 20000
open Go
open Go.IntKind (wrap)
def u1 (a : aL) : Bool := a.V6 || (a.Hi == 0 && decide (a.Lo ≤ 4294967295))
def ltA (a b : aL) : Bool := if a.V6 ≠ b.V6 then b.V6 else if a.Hi ≠ b.Hi then decide (a.Hi < b.Hi) else decide (a.Lo < b.Lo)
def FH (r : aK) : Bool := u1 r.Lo && (u1 r.Hi && ((r.Lo.V6 == r.Hi.V6) && !ltA r.Hi r.Lo))
def inR (a : aL) (r : aK) : Bool := FH r && ((r.Lo.V6 == a.V6) && (!ltA a r.Lo && !ltA r.Hi a))
def IL (l : List aK) (a : aL) : Bool := u1 a && l.any (inR a)
def Jh (l : List aP) (n : Int) : Bool := decide (0 ≤ n ∧ n ≤ 4294967296) && l.any fun x => decide (x.Lo ≤ n) && decide (n ≤ x.Hi)
def AV (b : aE) (s d : aL) (sp dp : Int) : Bool := IL b.Src.xs s && (Jh b.SrcPorts.xs sp && (IL b.Dst.xs d && Jh b.DstPorts.xs dp))
def ke (b : aE) (f : aU) (dir : Int) : Bool :=
 decide (b.Rule.Proto = f.Proto ∧ (dir = 1 ∨ dir = 2) ∧ (b.Rule.Dir = 0 ∨ b.Rule.Dir = dir)) && (AV b f.Src f.Dst f.Sport f.Dport || (b.Rule.Both && AV b f.Dst f.Src f.Dport f.Sport))
def eqA (a b : aL) : Bool := (a.V6 == b.V6) && ((a.Hi == b.Hi) && (a.Lo == b.Lo))
theorem BB {a b : aL} : eqA a b = true ↔ a = b := by
 obtain ⟨v1, x1, y1⟩ := a
 obtain ⟨v2, x2, y2⟩ := b
 unfold eqA
 simp
def Mf (a b : aL) : Int := if eqA a b = true then 0 else if ltA a b = true then -1 else 1
theorem LH (a : aL) : ltA a a = false := by
 unfold ltA
 rw [if_neg (fun h => h rfl), if_neg (fun h => h rfl)]
 exact decide_eq_false (Int.lt_irrefl _)
theorem Nb {a b : aL} (h : a.V6 ≠ b.V6) : ltA a b = b.V6 := by unfold ltA; rw [if_pos h]
theorem J5 {a b : aL} (h : a.V6 = b.V6) (hx : a.Hi ≠ b.Hi) : ltA a b = decide (a.Hi < b.Hi) := by unfold ltA; rw [if_neg (fun hh => hh h), if_pos hx]
theorem Lj {a b : aL} (h : a.V6 = b.V6) (hx : a.Hi = b.Hi) : ltA a b = decide (a.Lo < b.Lo) := by unfold ltA; rw [if_neg (fun hh => hh h), if_neg (fun hh => hh hx)]
theorem Hw (a b : aL) : decide (Mf a b ≤ 0) = !ltA b a := by
 unfold Mf
 by_cases h : a = b
 ·subst h; rw [if_pos (BB.2 rfl), LH]; rfl
 rw [if_neg (fun hh => h (BB.1 hh))]
 by_cases hv : a.V6 = b.V6
 ·by_cases hx : a.Hi = b.Hi
  ·have hy : a.Lo ≠ b.Lo := fun e => h (by
    obtain ⟨v1, x1, y1⟩ := a
    obtain ⟨v2, x2, y2⟩ := b
    obtain rfl : v1 = v2 := hv
    obtain rfl : x1 = x2 := hx
    obtain rfl : y1 = y2 := e
    rfl)
   rw [Lj hv hx, Lj hv.symm hx.symm]
   by_cases hl : a.Lo < b.Lo
   ·rw [decide_eq_true hl, if_pos rfl, decide_eq_false (p := b.Lo < a.Lo) (by omega)]; rfl
   ·rw [decide_eq_false hl, if_neg (by decide), decide_eq_true (p := b.Lo < a.Lo) (by omega)]; rfl
  ·rw [J5 hv hx, J5 hv.symm (Ne.symm hx)]
   by_cases hl : a.Hi < b.Hi
   ·rw [decide_eq_true hl, if_pos rfl, decide_eq_false (p := b.Hi < a.Hi) (by omega)]; rfl
   ·rw [decide_eq_false hl, if_neg (by decide), decide_eq_true (p := b.Hi < a.Hi) (by omega)]; rfl
 ·rw [Nb hv, Nb (Ne.symm hv)]
  revert hv
  cases a.V6 <;> cases b.V6 <;> intro hv <;> first | exact absurd rfl hv | rfl
section
variable {h : aB} {Q : Value → aB → Prop}
theorem BO [Gh] (a : aL) (hk : ∀ h', Fr (fun _ => False) h h' → Q (.bool (u1 a)) h') : aD Tryz.prog jT #[.agg a.vals.toArray] h Q := by
 apply Bt
 unfold vK
 refine aX (vs := a.vals) fun t1 h1 f1 e1 o1 => ?_
 have c1 : bA h1 t1 a.vals := o1.cells
 have hk := hk h1 f1
 unfold u1 at hk
 refine aG (c1.at0 rfl) (ifB (fun e => ?_) fun e => aA (c1.at (j := 1) rfl) (ifE (fun e2 => aA (c1.at (j := 2) rfl) ?_) fun e2 => ?_))
 ·rw [e] at hk; exact hk
 ·rw [e, e2] at hk; simpa using hk
 ·rw [e, Bool.false_or, beq_eq_false_iff_ne.2 e2, Bool.false_and] at hk; exact hk
theorem Hs [Gh] (a : aL) (hk : ∀ h', Fr (fun _ => False) h h' → Q (.bool (u1 a)) h') : aD Tryz.prog mK #[.agg a.vals.toArray] h Q := by
 apply EO
 unfold zo
 refine aX (vs := a.vals) fun t1 h1 f1 e1 o1 => ?_
 have c1 : bA h1 t1 a.vals := o1.cells
 have hk := hk h1 f1
 unfold u1 at hk
 refine aG (c1.at0 rfl) (ifB (fun e => ?_) fun e => aA (c1.at (j := 1) rfl) (ifE (fun e2 => aA (c1.at (j := 2) rfl) ?_) fun e2 => ?_))
 ·rw [e] at hk; exact hk
 ·rw [e, e2] at hk
  have e3 : decide (a.Lo < 4294967296) = decide (a.Lo ≤ 4294967295) := by rw [decide_eq_decide]; omega
  rw [e3]; simpa using hk
 ·rw [e, Bool.false_or, beq_eq_false_iff_ne.2 e2, Bool.false_and] at hk; exact hk
theorem BS [Gh] (a b : aL) (hk : ∀ h', Fr (fun _ => False) h h' → Q (.bool (ltA a b)) h') : aD Tryz.prog kM #[.agg a.vals.toArray, .agg b.vals.toArray] h Q := by
 apply CG
 unfold wj
 refine aX (vs := a.vals) fun t2 h1 f1 e1 o1 => aX (vs := b.vals) fun t3 h2 f2 e2 o2 => ?_
 have c1 : bA h2 t2 a.vals := o1.cells.fr0 f2
 have c2 : bA h2 t3 b.vals := o2.cells
 have hk := hk h2 (f1.trans f2)
 unfold ltA at hk
 refine aG (c1.at0 rfl) (aG (c2.at0 rfl) ?_)
 by_cases hv : a.V6 = b.V6
 ·rw [if_neg (fun h => h hv)] at hk
  rw [if_neg (by simp [hv])]
  refine aA (c1.at (j := 1) rfl) (aA (c2.at (j := 1) rfl) (ki (fun hx => ?_) fun hx => ?_))
  ·rw [if_pos hx] at hk
   exact aA (c1.at (j := 1) rfl) (aA (c2.at (j := 1) rfl) hk)
  ·rw [if_neg (fun h => h hx)] at hk
   exact aA (c1.at (j := 2) rfl) (aA (c2.at (j := 2) rfl) hk)
 ·rw [if_pos hv] at hk
  rw [if_pos (by simpa using hv)]
  exact aG (c2.at0 rfl) hk
theorem Af [Gh] (a b : aL) (hk : ∀ h', Fr (fun _ => False) h h' → Q (.int .i64 (Mf a b)) h') : aD Tryz.prog iQ #[.agg a.vals.toArray, .agg b.vals.toArray] h Q := by
 apply zQ
 unfold sR
 refine aX (vs := a.vals) fun t2 h1 f1 e1 o1 => aX (vs := b.vals) fun t3 h2 f2 e2 o2 => ?_
 have c1 : bA h2 t2 a.vals := o1.cells.fr0 f2
 have c2 : bA h2 t3 b.vals := o2.cells
 have hk := hk h2 (f1.trans f2)
 unfold Mf at hk
 refine aG (c1.at0 rfl) (aA (c1.at (j := 1) rfl) (aA (c1.at (j := 2) rfl) (aG (c2.at0 rfl) (aA (c2.at (j := 1) rfl) (aA (c2.at (j := 2) rfl) ?_)))))
 by_cases h : a = b
 ·rw [if_pos (BB.2 h)] at hk
  rw [if_pos (by rw [h]; simp)]; exact hk
 rw [if_neg (fun hh => h (BB.1 hh))] at hk
 rw [if_neg (fun hh => h (by
  simp only [Bool.and_true, Bool.and_eq_true, beq_iff_eq] at hh
  obtain ⟨v1, x1, y1⟩ := a
  obtain ⟨v2, x2, y2⟩ := b
  obtain ⟨rfl, rfl, rfl⟩ := hh
  rfl))]
 refine aG (c1.at0 rfl) (aG (c2.at0 rfl) ?_)
 by_cases hv : a.V6 = b.V6
 ·rw [if_neg (by simp [hv])]
  refine aA (c1.at (j := 1) rfl) (aA (c2.at (j := 1) rfl) (ki (fun hx => ?_) fun hx => ?_))
  ·rw [J5 hv hx] at hk
   refine aA (c1.at (j := 1) rfl) (aA (c2.at (j := 1) rfl) (ifD (fun hl => ?_) fun hl => ?_))
   ·rw [decide_eq_true hl, if_pos rfl] at hk; exact hk
   ·rw [decide_eq_false hl, if_neg (by decide)] at hk; exact hk
  ·rw [Lj hv hx] at hk
   refine aA (c1.at (j := 2) rfl) (aA (c2.at (j := 2) rfl) (ifD (fun hl => ?_) fun hl => ?_))
   ·rw [decide_eq_true hl, if_pos rfl] at hk; exact hk
   ·rw [decide_eq_false hl, if_neg (by decide)] at hk; exact hk
 ·rw [Nb hv] at hk
  rw [if_pos (by simpa using hv)]
  refine aG (c2.at0 rfl) (ifB (fun e => ?_) fun e => ?_)
  ·rw [if_pos e] at hk; exact hk
  ·rw [if_neg (by rw [e]; decide)] at hk; exact hk
theorem MK [Gh] (r : aK) (hk : ∀ h', Fr (fun _ => False) h h' → Q (.bool (FH r)) h') : aD Tryz.prog qM #[.agg r.vals.toArray] h Q := by
 apply BZ
 unfold wK
 unfold FH at hk
 refine aX (vs := r.vals) fun t1 h1 f1 e1 o1 => ?_
 have c1 : bA h1 t1 r.vals := o1.cells
 refine aG (c1.at0 rfl) (aA (c1.at (j := 1) rfl) (aA (c1.at (j := 2) rfl) ?_))
 refine BO r.Lo fun h2 f2 => ⟨_, rfl, ifB (fun e => ?_) fun e => ?_⟩
 ·rw [e, Bool.true_and] at hk
  have c2 := c1.fr0 f2
  refine aG (c2.at (j := 3) rfl) (aA (c2.at (j := 4) rfl) (aA (c2.at (j := 5) rfl) ?_))
  refine BO r.Hi fun h3 f3 => ⟨_, rfl, ifB (fun e2 => ?_) fun e2 => ?_⟩
  ·rw [e2, Bool.true_and] at hk
   have c3 := c2.fr0 f3
   refine aG (c3.at0 rfl) (aG (c3.at (j := 3) rfl) (ifB (fun e3 => ?_) fun e3 => ?_))
   ·rw [e3, Bool.true_and] at hk
    refine aG (c3.at0 rfl) (aA (c3.at (j := 1) rfl) (aA (c3.at (j := 2) rfl) (aG (c3.at (j := 3) rfl) (aA (c3.at (j := 4) rfl) (aA (c3.at (j := 5) rfl) ?_)))))
    refine Af r.Lo r.Hi fun h4 f4 => ⟨_, rfl, ?_⟩
    rw [Hw]
    exact hk h4 (((f1.trans f2).trans f3).trans f4)
   ·rw [e3, Bool.false_and] at hk; exact hk h3 ((f1.trans f2).trans f3)
  ·rw [e2, Bool.false_and] at hk; exact hk h3 ((f1.trans f2).trans f3)
 ·rw [e, Bool.false_and] at hk; exact hk h2 (f1.trans f2)
theorem LY [Gh] (r : aK) (hk : ∀ h', Fr (fun _ => False) h h' → Q (.bool (FH r)) h') : aD Tryz.prog tv #[.agg r.vals.toArray] h Q := by
 apply ET
 unfold zp
 unfold FH at hk
 refine aX (vs := r.vals) fun t1 h1 f1 e1 o1 => ?_
 have c1 : bA h1 t1 r.vals := o1.cells
 refine aG (c1.at0 rfl) (aA (c1.at (j := 1) rfl) (aA (c1.at (j := 2) rfl) ?_))
 refine Hs r.Lo fun h2 f2 => ⟨_, rfl, ifB (fun e => ?_) fun e => ?_⟩
 ·rw [e, Bool.true_and] at hk
  have c2 := c1.fr0 f2
  refine aG (c2.at (j := 3) rfl) (aA (c2.at (j := 4) rfl) (aA (c2.at (j := 5) rfl) ?_))
  refine Hs r.Hi fun h3 f3 => ⟨_, rfl, ifB (fun e2 => ?_) fun e2 => ?_⟩
  ·rw [e2, Bool.true_and] at hk
   have c3 := c2.fr0 f3
   refine aG (c3.at0 rfl) (aG (c3.at (j := 3) rfl) (ifB (fun e3 => ?_) fun e3 => ?_))
   ·rw [e3, Bool.true_and] at hk
    refine aG (c3.at (j := 3) rfl) (aA (c3.at (j := 4) rfl) (aA (c3.at (j := 5) rfl) (aG (c3.at0 rfl) (aA (c3.at (j := 1) rfl) (aA (c3.at (j := 2) rfl) ?_)))))
    refine BS r.Hi r.Lo fun h4 f4 => ⟨_, rfl, ?_⟩
    exact hk h4 (((f1.trans f2).trans f3).trans f4)
   ·rw [e3, Bool.false_and] at hk; exact hk h3 ((f1.trans f2).trans f3)
  ·rw [e2, Bool.false_and] at hk; exact hk h3 ((f1.trans f2).trans f3)
 ·rw [e, Bool.false_and] at hk; exact hk h2 (f1.trans f2)
theorem zi {α : Type} (l : List α) (P : α → Bool) (i : Nat) (hi : i < l.length) : (l.take (i + 1)).any P = ((l.take i).any P || P l[i]) := by
 rw [show l.take (i + 1) = l.take i ++ [l[i]] by rw [List.take_append_getElem], List.any_append]; simp
theorem BF {α : Type} (l : List α) (P : α → Bool) (i : Nat) (hi : i < l.length) (h : P l[i] = true) : l.any P = true := List.any_eq_true.2 ⟨l[i], List.getElem_mem hi, h⟩
theorem NB [Gh] (l : Sl aK) (o : bH 6 aK.vals aK.ok h l) (F : Value) (P : aK → Bool) (hF : ∀ h', Fr (fun _ => False) h h' → ∀ (x : aK) (Q : Value → aB → Prop), (∀ h'', Fr (fun _ => False) h' h'' → Q (.bool (P x)) h'') → mL Tryz.prog F #[.agg x.vals.toArray] h' Q)
  (hk : ∀ h', Fr (fun _ => False) h h' → Q (.bool (l.xs.any P)) h') : aD Tryz.prog cX #[.slice l.p l.xs.length l.cap, F] h Q := by
 apply kQ
 unfold fQ
 apply lX
 unfold gW
 have hcap := o.cap
 refine aH.go (fun n st h' => ∃ i : Nat, st = (i : Int) ∧ i ≤ l.xs.length ∧ n = l.xs.length - i ∧ Fr (fun _ => False) h h' ∧ (l.xs.take i).any P = false) l.xs.length ⟨0, rfl, by omega, rfl, Fr.refl _ _, rfl⟩ ?_
 rintro n - h1 ⟨i, rfl, hi, rfl, f1, ha⟩ Kn hK
 unfold dH
 refine ifD (fun e => ?_) fun e => ?_
 ·have hil : i < l.xs.length := by omega
  refine bY (bH.fr0 aK.ok_fr f1 o) i rfl hil fun ad c _ => ?_
  rw [Int.toNat_natCast]
  refine aG (c.at0 rfl) (aA (c.at (j := 1) rfl) (aA (c.at (j := 2) rfl) (aG (c.at (j := 3) rfl) (aA (c.at (j := 4) rfl) (aA (c.at (j := 5) rfl) ?_)))))
  refine hF h1 f1 l.xs[i] _ fun h2 f2 => ⟨_, rfl, ifB (fun e2 => ⟨_, rfl, ?_⟩) fun e2 => ?_⟩
  ·rw [decide_eq_true (by omega)]
   have := hk h2 (f1.trans f2)
   rw [BF l.xs P i hil e2] at this; exact this
  ·rw [wr (by omega) (by omega)]
   exact hK (l.xs.length - (i + 1)) _ _ (by omega) ⟨i + 1, rfl, hil, rfl, f1.trans f2, by rw [zi _ _ _ hil, ha, e2]; rfl⟩
 ·have : i = l.xs.length := by omega
  subst this
  rw [List.take_length] at ha
  have := hk h1 f1
  rw [ha] at this
  exact ⟨_, rfl, this⟩
theorem Nr [Gh] (l : Sl aP) (o : bH 2 aP.vals aP.ok h l) (F : Value) (P : aP → Bool) (hF : ∀ h', Fr (fun _ => False) h h' → ∀ (x : aP) (Q : Value → aB → Prop), (∀ h'', Fr (fun _ => False) h' h'' → Q (.bool (P x)) h'') → mL Tryz.prog F #[.agg x.vals.toArray] h' Q)
  (hk : ∀ h', Fr (fun _ => False) h h' → Q (.bool (l.xs.any P)) h') : aD Tryz.prog cZ #[.slice l.p l.xs.length l.cap, F] h Q := by
 apply lJ
 unfold gM
 apply mE
 unfold iu
 have hcap := o.cap
 refine aH.go (fun n st h' => ∃ i : Nat, st = (i : Int) ∧ i ≤ l.xs.length ∧ n = l.xs.length - i ∧ Fr (fun _ => False) h h' ∧ (l.xs.take i).any P = false) l.xs.length ⟨0, rfl, by omega, rfl, Fr.refl _ _, rfl⟩ ?_
 rintro n - h1 ⟨i, rfl, hi, rfl, f1, ha⟩ Kn hK
 unfold eE
 refine ifD (fun e => ?_) fun e => ?_
 ·have hil : i < l.xs.length := by omega
  refine bY (bH.fr0 aP.ok_fr f1 o) i rfl hil fun ad c _ => ?_
  rw [Int.toNat_natCast]
  refine aA (c.at0 rfl) (aA (c.at (j := 1) rfl) ?_)
  refine hF h1 f1 l.xs[i] _ fun h2 f2 => ⟨_, rfl, ifB (fun e2 => ⟨_, rfl, ?_⟩) fun e2 => ?_⟩
  ·rw [decide_eq_true (by omega)]
   have := hk h2 (f1.trans f2)
   rw [BF l.xs P i hil e2] at this; exact this
  ·rw [wr (by omega) (by omega)]
   exact hK (l.xs.length - (i + 1)) _ _ (by omega) ⟨i + 1, rfl, hil, rfl, f1.trans f2, by rw [zi _ _ _ hil, ha, e2]; rfl⟩
 ·have : i = l.xs.length := by omega
  subst this
  rw [List.take_length] at ha
  have := hk h1 f1
  rw [ha] at this
  exact ⟨_, rfl, this⟩
theorem AX [Gh] (l : Sl aK) (a : aL) (o : bH 6 aK.vals aK.ok h l) (hk : ∀ h', Fr (fun _ => False) h h' → Q (.bool (IL l.xs a)) h') : aD Tryz.prog jO #[.slice l.p l.xs.length l.cap, .agg a.vals.toArray] h Q := by
 apply yq
 unfold rG
 unfold IL at hk
 refine aX (vs := a.vals) fun t3 h1 f1 e1 o1 => ?_
 have c1 : bA h1 t3 a.vals := o1.cells
 refine aG (c1.at0 rfl) (aA (c1.at (j := 1) rfl) (aA (c1.at (j := 2) rfl) ?_))
 refine BO a fun h2 f2 => ⟨_, rfl, ifB (fun e => ?_) fun e => ?_⟩
 ·rw [e, Bool.true_and] at hk
  have f12 := f1.trans f2
  have c2 := c1.fr0 f2
  refine NB l (bH.fr0 aK.ok_fr f12 o) _ (inR a) (fun h3 f3 x K hK => ?_) fun h3 f3 => ⟨_, rfl, hk h3 (f12.trans f3)⟩
  rw [cS]
  show aD Tryz.prog pK #[.agg x.vals.toArray, .pointer (some t3)] h3 K
  apply wx
  unfold qu
  have c3 := c2.fr0 f3
  unfold inR at hK
  refine aX (vs := x.vals) fun t2 h4 f4 e4 o4 => ?_
  have c4 : bA h4 t2 x.vals := o4.cells
  have a4 := c3.fr0 f4
  refine aG (c4.at0 rfl) (aA (c4.at (j := 1) rfl) (aA (c4.at (j := 2) rfl) (aG (c4.at (j := 3) rfl) (aA (c4.at (j := 4) rfl) (aA (c4.at (j := 5) rfl) ?_)))))
  refine MK x fun h5 f5 => ⟨_, rfl, ifB (fun e5 => ?_) fun e5 => ?_⟩
  ·rw [e5, Bool.true_and] at hK
   have c5 := c4.fr0 f5
   have a5 := a4.fr0 f5
   refine aG (c5.at0 rfl) (aG (a5.at0 rfl) (ifB (fun e6 => ?_) fun e6 => ?_))
   ·rw [e6, Bool.true_and] at hK
    refine aG (c5.at0 rfl) (aA (c5.at (j := 1) rfl) (aA (c5.at (j := 2) rfl) (aG (a5.at0 rfl) (aA (a5.at (j := 1) rfl) (aA (a5.at (j := 2) rfl) ?_)))))
    refine Af x.Lo a fun h6 f6 => ⟨_, rfl, ?_⟩
    rw [Hw]
    have c6 := c5.fr0 f6
    have a6 := a5.fr0 f6
    refine ifB (fun e7 => ?_) fun e7 => ?_
    ·rw [e7, Bool.true_and] at hK
     refine aG (a6.at0 rfl) (aA (a6.at (j := 1) rfl) (aA (a6.at (j := 2) rfl) (aG (c6.at (j := 3) rfl) (aA (c6.at (j := 4) rfl) (aA (c6.at (j := 5) rfl) ?_)))))
     refine Af a x.Hi fun h7 f7 => ⟨_, rfl, ?_⟩
     rw [Hw]
     exact hK h7 (((f4.trans f5).trans f6).trans f7)
    ·rw [e7, Bool.false_and] at hK; exact hK h6 ((f4.trans f5).trans f6)
   ·rw [e6, Bool.false_and] at hK; exact hK h5 (f4.trans f5)
  ·rw [e5, Bool.false_and] at hK; exact hK h5 (f4.trans f5)
 ·rw [e, Bool.false_and] at hk; exact hk h2 (f1.trans f2)
theorem AQ [Gh] (l : Sl aP) (n : Int) (o : bH 2 aP.vals aP.ok h l) (hk : ∀ h', Fr (fun _ => False) h h' → Q (.bool (Jh l.xs n)) h') : aD Tryz.prog jB #[.slice l.p l.xs.length l.cap, .int .i64 n] h Q := by
 apply xw
 unfold qU
 unfold Jh at hk
 refine aX (vs := [.int .i64 n]) fun t3 h1 f1 e1 o1 => ?_
 have c1 := o1.cells
 refine aA (c1.at0 rfl) (ifD (fun e => ?_) fun e => ?_)
 ·refine aA (c1.at0 rfl) (ifD (fun e2 => ?_) fun e2 => ?_)
  ·rw [decide_eq_true ⟨by omega, e2⟩, Bool.true_and] at hk
   refine Nr l (bH.fr0 aP.ok_fr f1 o) _ _ (fun h3 f3 x K hK => ?_) fun h3 f3 => ⟨_, rfl, hk h3 (f1.trans f3)⟩
   rw [cS]
   show aD Tryz.prog oo #[.agg x.vals.toArray, .pointer (some t3)] h3 K
   apply vT
   unfold pF
   refine aX (vs := x.vals) fun t2 h4 f4 e4 o4 => ?_
   have c4 : bA h4 t2 x.vals := o4.cells
   have a4 := (c1.fr0 f3).fr0 f4
   refine aA (c4.at0 rfl) (aA (a4.at0 rfl) (ifD (fun e5 => ?_) fun e5 => ?_))
   ·rw [decide_eq_true e5, Bool.true_and] at hK
    exact aA (a4.at0 rfl) (aA (c4.at (j := 1) rfl) (hK h4 f4))
   ·rw [decide_eq_false e5, Bool.false_and] at hK; exact hK h4 f4
  ·rw [decide_eq_false (fun hh => e2 hh.2), Bool.false_and] at hk; exact hk h1 f1
 ·rw [decide_eq_false (fun hh => e hh.1), Bool.false_and] at hk; exact hk h1 f1
theorem Ba [Gh] (l : Sl aK) (a : aL) (o : bH 6 aK.vals aK.ok h l) (hk : ∀ h', Fr (fun _ => False) h h' → Q (.bool (IL l.xs a)) h') : aD Tryz.prog lD #[.slice l.p l.xs.length l.cap, .agg a.vals.toArray] h Q := by
 apply AA
 unfold uk
 unfold IL at hk
 have hcap := o.cap
 refine aX (vs := a.vals) fun t3 h0 f0 e0 o0 => ?_
 have c0 : bA h0 t3 a.vals := o0.cells
 refine aH.go (fun n st h' => ∃ i : Nat, st = (i : Int) ∧ i ≤ l.xs.length ∧ n = l.xs.length - i ∧ Fr (fun _ => False) h0 h' ∧ (u1 a && (l.xs.take i).any (inR a)) = false) l.xs.length ⟨0, rfl, by omega, rfl, Fr.refl _ _, by simp⟩ ?_
 rintro n - h1 ⟨i, rfl, hi, rfl, f1, ha⟩ Kn hK
 unfold oj
 refine ifD (fun e => ?_) fun e => ?_
 ·have hil : i < l.xs.length := by omega
  have f01 := f0.trans f1
  have a1 := c0.fr0 f1
  have nx : ∀ h', Fr (fun _ => False) h1 h' → (u1 a && inR a l.xs[i]) = false → Kn (wrap .i64 ((i : Int) + 1)) h' := fun h' f hn => by
   rw [wr (by omega) (by omega)]
   exact hK (l.xs.length - (i + 1)) _ _ (by omega) ⟨i + 1, rfl, hil, rfl, f1.trans f, by rw [zi _ _ _ hil, Bool.and_or_distrib_left, ha, hn]; rfl⟩
  have rd : ∀ {h' : aB}, Fr (fun _ => False) h1 h' → ∀ {K : Addr → Prop}, (∀ ad, bA h' (ad.add (i * 6)) (aK.vals l.xs[i]) → K ad) → bM (i : Int) l.xs.length (nn l.p fun a => K a) := fun f K hk => bY (bH.fr0 aK.ok_fr (f01.trans f) o) i rfl hil fun ad c _ => hk ad c
  refine aG (a1.at0 rfl) (aA (a1.at (j := 1) rfl) (aA (a1.at (j := 2) rfl) ?_))
  refine Hs a fun h2 f2 => ⟨_, rfl, ifB (fun e2 => ?_) fun e2 => nx h2 f2 (by rw [e2]; rfl)⟩
  rw [e2] at ha nx
  refine rd f2 fun ad c => ?_
  rw [Int.toNat_natCast]
  refine aG (c.at0 rfl) (aA (c.at (j := 1) rfl) (aA (c.at (j := 2) rfl) (aG (c.at (j := 3) rfl) (aA (c.at (j := 4) rfl) (aA (c.at (j := 5) rfl) ?_)))))
  refine LY l.xs[i] fun h3 f3 => ⟨_, rfl, ifB (fun e3 => ?_) fun e3 => nx h3 (f2.trans f3) (by unfold inR; rw [e3]; rfl)⟩
  have f13 := f2.trans f3
  have a3 := a1.fr0 f13
  refine rd f13 fun ad c => aG (c.at0 rfl) (aG (a3.at0 rfl) (ifB (fun e4 => ?_) fun e4 => nx h3 f13 (by unfold inR; rw [e3, e4]; rfl)))
  refine aG (a3.at0 rfl) (aA (a3.at (j := 1) rfl) (aA (a3.at (j := 2) rfl) (rd f13 fun ad c => aG (c.at0 rfl) (aA (c.at (j := 1) rfl) (aA (c.at (j := 2) rfl) ?_)))))
  refine BS a l.xs[i].Lo fun h4 f4 => ⟨_, rfl, ifN (fun e5 => ?_) fun e5 => nx h4 (f13.trans f4) (by unfold inR; rw [e3, e4, e5]; rfl)⟩
  have f14 := f13.trans f4
  have a4 := a1.fr0 f14
  refine rd f14 fun ad c => aG (c.at (j := 3) rfl) (aA (c.at (j := 4) rfl) (aA (c.at (j := 5) rfl) (aG (a4.at0 rfl) (aA (a4.at (j := 1) rfl) (aA (a4.at (j := 2) rfl) ?_)))))
  refine BS l.xs[i].Hi a fun h5 f5 => ⟨_, rfl, ifN (fun e6 => ?_) fun e6 => nx h5 (f14.trans f5) (by unfold inR; rw [e3, e4, e5, e6]; rfl)⟩
  have := hk h5 (f01.trans (f14.trans f5))
  rw [e2, BF l.xs (inR a) i hil (by unfold inR; rw [e3, e4, e5, e6]; rfl)] at this
  exact this
 ·have : i = l.xs.length := by omega
  subst this
  rw [List.take_length] at ha
  have := hk h1 (f0.trans f1)
  rw [ha] at this; exact this
theorem yW [Gh] (l : Sl aP) (n : Int) (o : bH 2 aP.vals aP.ok h l) (hk : Q (.bool (Jh l.xs n)) h) : aD Tryz.prog lI #[.slice l.p l.xs.length l.cap, .int .i64 n] h Q := by
 apply Ae
 unfold uw
 unfold Jh at hk
 have hcap := o.cap
 refine ifD (fun e => ?_) fun e => ifD (fun e2 => ?_) fun e2 => ?_
 ·rw [decide_eq_false (by omega), Bool.false_and] at hk; exact hk
 ·rw [decide_eq_false (by omega), Bool.false_and] at hk; exact hk
 rw [decide_eq_true ⟨by omega, by omega⟩, Bool.true_and] at hk
 refine aH.go (fun m st h' => ∃ i : Nat, st = (i : Int) ∧ i ≤ l.xs.length ∧ m = l.xs.length - i ∧ h' = h ∧ (l.xs.take i).any (fun x => decide (x.Lo ≤ n) && decide (n ≤ x.Hi)) = false) l.xs.length ⟨0, rfl, by omega, rfl, rfl, rfl⟩ ?_
 rintro m - h1 ⟨i, rfl, hi, rfl, rfl, ha⟩ Kn hK
 unfold oY
 refine ifD (fun e => ?_) fun e => ?_
 ·have hil : i < l.xs.length := by omega
  have nx : (decide (l.xs[i].Lo ≤ n) && decide (n ≤ l.xs[i].Hi)) = false → Kn (wrap .i64 ((i : Int) + 1)) h1 := fun hn => by
   rw [wr (by omega) (by omega)]
   exact hK (l.xs.length - (i + 1)) _ _ (by omega) ⟨i + 1, rfl, hil, rfl, rfl, by rw [zi _ _ _ hil, ha, hn]; rfl⟩
  refine bY o i rfl hil fun ad c _ => ?_
  rw [Int.toNat_natCast]
  refine aA (c.at0 rfl) (ifD (fun e3 => ?_) fun e3 => nx (by rw [decide_eq_false e3]; rfl))
  refine bY o i rfl hil fun ad c _ => aA (c.at (j := 1) rfl) (ifD (fun e4 => ?_) fun e4 => nx (by rw [decide_eq_false e4, Bool.and_false]))
  rw [BF l.xs _ i hil (by rw [decide_eq_true e3, decide_eq_true e4]; rfl)] at hk
  exact hk
 ·have : i = l.xs.length := by omega
  subst this
  rw [List.take_length] at ha
  rw [ha] at hk; exact hk
end
end Go.Proofs.YtjmfpeiidlpngaaGreatDoor.Au
namespace Go.Proofs.YtjmfpeiidlpngaaGreatDoor.Au
set_option linter.unusedSimpArgs false
set_option linter.unusedVariables false
set_option maxRecDepth 20000
open Go
open Go.IntKind (wrap)
section
variable {h : aB} {Q : Value → aB → Prop}
theorem Kl [Gh] (b : aE) (s d : aL) (sp dp : Int) {t4 : Addr} (cb : bA h t4 b.vals) (ok : aE.ok h b) (hk : ∀ h', Fr (fun _ => False) h h' → Q (.bool (AV b s d sp dp)) h') :
  aD Tryz.prog iB #[.agg s.vals.toArray, .agg d.vals.toArray, .int .i64 sp, .int .i64 dp, .pointer (some t4)] h Q := by
 apply vM
 unfold pD
 unfold AV at hk
 refine aX (vs := s.vals) fun t5 h1 f1 e1 o1 => aX (vs := d.vals) fun t6 h2 f2 e2 o2 => ?_
 have f12 := f1.trans f2
 have cs : bA h2 t5 s.vals := o1.cells.fr0 f2
 have cd : bA h2 t6 d.vals := o2.cells
 have c2 := cb.fr0 f12
 have k2 := aE.ok_fr _ _ _ f12 ok
 refine aC (c2.at (j := 21) rfl) (aG (cs.at0 rfl) (aA (cs.at (j := 1) rfl) (aA (cs.at (j := 2) rfl) ?_)))
 refine AX b.Src s k2.k1 fun h3 f3 => ⟨_, rfl, ifB (fun e => ?_) fun e => ?_⟩
 ·rw [e, Bool.true_and] at hk
  have c3 := c2.fr0 f3
  have k3 := aE.ok_fr _ _ _ f3 k2
  refine aC (c3.at (j := 23) rfl) (AQ b.SrcPorts sp k3.k3 fun h4 f4 => ⟨_, rfl, ifB (fun e2 => ?_) fun e2 => ?_⟩)
  ·rw [e2, Bool.true_and] at hk
   have c4 := c3.fr0 f4
   have k4 := aE.ok_fr _ _ _ f4 k3
   have cd4 := (cd.fr0 f3).fr0 f4
   refine aC (c4.at (j := 22) rfl) (aG (cd4.at0 rfl) (aA (cd4.at (j := 1) rfl) (aA (cd4.at (j := 2) rfl) ?_)))
   refine AX b.Dst d k4.k2 fun h5 f5 => ⟨_, rfl, ifB (fun e3 => ?_) fun e3 => ?_⟩
   ·rw [e3, Bool.true_and] at hk
    have c5 := c4.fr0 f5
    have k5 := aE.ok_fr _ _ _ f5 k4
    exact aC (c5.at (j := 24) rfl) (AQ b.DstPorts dp k5.k4 fun h6 f6 => ⟨_, rfl, hk h6 ((((f12.trans f3).trans f4).trans f5).trans f6)⟩)
   ·rw [e3, Bool.false_and] at hk; exact hk h5 (((f12.trans f3).trans f4).trans f5)
  ·rw [e2, Bool.false_and] at hk; exact hk h4 ((f12.trans f3).trans f4)
 ·rw [e, Bool.false_and] at hk; exact hk h3 (f12.trans f3)
theorem Ij [Gh] (b : aE) (f : aU) (ok : aE.ok h b) (hk : ∀ h', Fr (fun _ => False) h h' → Q (.bool (AV b f.Src f.Dst f.Sport f.Dport)) h') :
  aD Tryz.prog qf #[.agg b.vals.toArray, .agg f.vals.toArray] h Q := by
 apply EH
 unfold zM
 unfold AV at hk
 refine aX (vs := b.vals) fun t2 h1 f1 e1 o1 => aX (vs := f.vals) fun t3 h2 f2 e2 o2 => ?_
 have f12 := f1.trans f2
 have c2 : bA h2 t2 b.vals := o1.cells.fr0 f2
 have cf : bA h2 t3 f.vals := o2.cells
 have k2 := aE.ok_fr _ _ _ f12 ok
 refine aC (c2.at (j := 21) rfl) (aG (cf.at (j := 1) rfl) (aA (cf.at (j := 2) rfl) (aA (cf.at (j := 3) rfl) ?_)))
 refine Ba b.Src f.Src k2.k1 fun h3 f3 => ⟨_, rfl, ifB (fun e => ?_) fun e => ?_⟩
 ·rw [e, Bool.true_and] at hk
  have c3 := c2.fr0 f3
  have cf3 := cf.fr0 f3
  have k3 := aE.ok_fr _ _ _ f3 k2
  refine aC (c3.at (j := 23) rfl) (aA (cf3.at (j := 7) rfl) (yW b.SrcPorts f.Sport k3.k3 ⟨_, rfl, ifB (fun e2 => ?_) fun e2 => ?_⟩))
  ·rw [e2, Bool.true_and] at hk
   refine aC (c3.at (j := 22) rfl) (aG (cf3.at (j := 4) rfl) (aA (cf3.at (j := 5) rfl) (aA (cf3.at (j := 6) rfl) ?_)))
   refine Ba b.Dst f.Dst k3.k2 fun h5 f5 => ⟨_, rfl, ifB (fun e3 => ?_) fun e3 => ?_⟩
   ·rw [e3, Bool.true_and] at hk
    have c5 := c3.fr0 f5
    have k5 := aE.ok_fr _ _ _ f5 k3
    exact aC (c5.at (j := 24) rfl) (aA ((cf3.fr0 f5).at (j := 8) rfl) (yW b.DstPorts f.Dport k5.k4 ⟨_, rfl, hk h5 ((f12.trans f3).trans f5)⟩))
   ·rw [e3, Bool.false_and] at hk; exact hk h5 ((f12.trans f3).trans f5)
  ·rw [e2, Bool.false_and] at hk; exact hk h3 (f12.trans f3)
 ·rw [e, Bool.false_and] at hk; exact hk h3 (f12.trans f3)
theorem MF {b : aE} {f : aU} {dir : Int} (h : ¬ (b.Rule.Proto = f.Proto ∧ (dir = 1 ∨ dir = 2) ∧ (b.Rule.Dir = 0 ∨ b.Rule.Dir = dir))) : ke b f dir = false := by
 unfold ke; rw [decide_eq_false h]; rfl
theorem KL {b : aE} {f : aU} {dir : Int} (h : b.Rule.Proto = f.Proto ∧ (dir = 1 ∨ dir = 2) ∧ (b.Rule.Dir = 0 ∨ b.Rule.Dir = dir)) : ke b f dir = (AV b f.Src f.Dst f.Sport f.Dport || (b.Rule.Both && AV b f.Dst f.Src f.Dport f.Sport)) := by
 unfold ke; rw [decide_eq_true h]; rfl
theorem It [Gh] (b : aE) (f : aU) (dir : Int) (ok : aE.ok h b) (hk : ∀ h', Fr (fun _ => False) h h' → Q (.bool (ke b f dir)) h') :
  aD Tryz.prog lR #[.agg b.vals.toArray, .agg f.vals.toArray, .int .i64 dir] h Q := by
 apply xC
 unfold q9
 refine aX (vs := b.vals) fun t3 h1 f1 e1 o1 => aX (vs := f.vals) fun t4 h2 f2 e2 o2 => ?_
 have f12 := f1.trans f2
 have cb : bA h2 t3 b.vals := o1.cells.fr0 f2
 have cf : bA h2 t4 f.vals := o2.cells
 refine (aA (cb.at0 rfl) (aA (cb.at rfl) (aC (cb.at rfl) (aC (cb.at rfl) (aC (cb.at rfl) (aC (cb.at rfl) (aG (cb.at rfl) (aA (cb.at rfl) (aA (cb.at rfl) (aA (cb.at rfl) (aV (cb.at rfl) (aA (cb.at rfl) (aA (cb.at rfl) (aC (cb.at rfl) (aC (cb.at rfl) (aC (cb.at rfl) (aC (cb.at rfl) (aA (cb.at rfl) (aA (cb.at rfl) (aA (cb.at rfl) (aA (cb.at rfl) ?_)))))))))))))))))))))
 refine aX (vs := [.int .i64 0, .int .i64 0, .slice none 0 0, .slice none 0 0, .slice none 0 0, .slice none 0 0, .bool false, .int .i64 0, .int .i64 0, .int .i64 0, .string (bs []), .int .i64 0, .int .i64 0, .slice none 0 0, .slice none 0 0, .slice none 0 0, .slice none 0 0, .int .i64 0, .int .i64 0, .int .i64 0, .int .i64 0]) fun t7 h3 f3 e3 o3 => ?_
 refine ig o3 (ws := b.Rule.vals) (by rfl) (by rfl) fun h4 f4 s4 o4 => ?_
 have f24 : Fr (fun _ => False) h2 h4 := f3.tr f4 fun x hx hh => by omega
 have f14 := f12.trans f24
 have cb4 := cb.fr0 f24
 have cf4 := cf.fr0 f24
 have cr : bA h4 t7 b.Rule.vals := o4.cells
 have k4 := aE.ok_fr _ _ _ f14 ok
 have no : ¬ (b.Rule.Proto = f.Proto ∧ (dir = 1 ∨ dir = 2) ∧ (b.Rule.Dir = 0 ∨ b.Rule.Dir = dir)) → Q (.bool false) h4 := fun hn => by
  have := hk h4 f14
  rw [MF hn] at this; exact this
 have b1 : b.Rule.Proto = f.Proto → (dir = 1 ∨ dir = 2) → (b.Rule.Dir = 0 ∨ b.Rule.Dir = dir) → dZ t4 t7 t3 Q h4 := fun q1 q2 q3 => by
  rw [KL ⟨q1, q2, q3⟩] at hk
  unfold dZ
  refine aG (cf4.at (j := 1) rfl) (aA (cf4.at (j := 2) rfl) (aA (cf4.at (j := 3) rfl) (aG (cf4.at (j := 4) rfl) (aA (cf4.at (j := 5) rfl) (aA (cf4.at (j := 6) rfl) (aA (cf4.at (j := 7) rfl) (aA (cf4.at (j := 8) rfl) ?_)))))))
  refine Kl b f.Src f.Dst f.Sport f.Dport cb4 k4 fun h5 f5 => ⟨_, rfl, ifB (fun e => ?_) fun e => ?_⟩
  ·have := hk h5 (f14.trans f5)
   rw [e] at this; exact this
  ·rw [e, Bool.false_or] at hk
   have cr5 := cr.fr0 f5
   have cf5 := cf4.fr0 f5
   have cb5 := cb4.fr0 f5
   have k5 := aE.ok_fr _ _ _ f5 k4
   refine aG (cr5.at (j := 6) rfl) (ifB (fun e2 => ?_) fun e2 => ?_)
   ·rw [e2, Bool.true_and] at hk
    refine aG (cf5.at (j := 4) rfl) (aA (cf5.at (j := 5) rfl) (aA (cf5.at (j := 6) rfl) (aG (cf5.at (j := 1) rfl) (aA (cf5.at (j := 2) rfl) (aA (cf5.at (j := 3) rfl) (aA (cf5.at (j := 8) rfl) (aA (cf5.at (j := 7) rfl) ?_)))))))
    exact Kl b f.Dst f.Src f.Dport f.Sport cb5 k5 fun h6 f6 => ⟨_, rfl, hk h6 ((f14.trans f5).trans f6)⟩
   ·rw [e2, Bool.false_and] at hk; exact hk h5 (f14.trans f5)
 refine aA (cr.at (j := 1) rfl) (aA (cf4.at0 rfl) (ki (fun e => no fun hh => e hh.1) fun q1 => ?_))
 refine ki (fun d1 => ki (fun d2 => no fun hh => hh.2.1.elim d1 d2) fun d2 => ?_) fun d1 => ?_
 ·refine aA (cr.at (j := 11) rfl) (ki (fun e2 => aA (cr.at (j := 11) rfl) (ki (fun e3 => no fun hh => hh.2.2.elim e2 e3) fun e3 => b1 q1 (.inr d2) (.inr e3))) fun e2 => b1 q1 (.inr d2) (.inl e2))
 ·refine aA (cr.at (j := 11) rfl) (ki (fun e2 => aA (cr.at (j := 11) rfl) (ki (fun e3 => no fun hh => hh.2.2.elim e2 e3) fun e3 => b1 q1 (.inl d1) (.inr e3))) fun e2 => b1 q1 (.inl d1) (.inl e2))
theorem CV [Gh] (b : aE) (f : aU) (dir : Int) (ok : aE.ok h b) (hk : ∀ h', Fr (fun _ => False) h h' → Q (.bool (ke b f dir)) h') :
  aD Tryz.prog mj #[.agg b.vals.toArray, .agg f.vals.toArray, .int .i64 dir] h Q := by
 apply Bn
 unfold vz
 refine aX (vs := b.vals) fun t3 h1 f1 e1 o1 => aX (vs := f.vals) fun t4 h2 f2 e2 o2 => ?_
 have f12 := f1.trans f2
 have cb : bA h2 t3 b.vals := o1.cells.fr0 f2
 have cf : bA h2 t4 f.vals := o2.cells
 have k2 := aE.ok_fr _ _ _ f12 ok
 have no : ¬ (b.Rule.Proto = f.Proto ∧ (dir = 1 ∨ dir = 2) ∧ (b.Rule.Dir = 0 ∨ b.Rule.Dir = dir)) → Q (.bool false) h2 := fun hn => by
  have := hk h2 f12
  rw [MF hn] at this; exact this
 have b1 : b.Rule.Proto = f.Proto → (dir = 1 ∨ dir = 2) → (b.Rule.Dir = 0 ∨ b.Rule.Dir = dir) → gE t3 t4 Q h2 := fun q1 q2 q3 => by
  rw [KL ⟨q1, q2, q3⟩] at hk
  unfold gE
  refine (aA (cb.at0 rfl) (aA (cb.at rfl) (aC (cb.at rfl) (aC (cb.at rfl) (aC (cb.at rfl) (aC (cb.at rfl) (aG (cb.at rfl) (aA (cb.at rfl) (aA (cb.at rfl) (aA (cb.at rfl) (aV (cb.at rfl) (aA (cb.at rfl) (aA (cb.at rfl) (aC (cb.at rfl) (aC (cb.at rfl) (aC (cb.at rfl) (aC (cb.at rfl) (aA (cb.at rfl) (aA (cb.at rfl) (aA (cb.at rfl) (aA (cb.at rfl) (aC (cb.at rfl) (aC (cb.at rfl) (aC (cb.at rfl) (aC (cb.at rfl) ?_)))))))))))))))))))))))))
  refine (aA (cf.at0 rfl) (aG (cf.at rfl) (aA (cf.at rfl) (aA (cf.at rfl) (aG (cf.at rfl) (aA (cf.at rfl) (aA (cf.at rfl) (aA (cf.at rfl) (aA (cf.at rfl) ?_)))))))))
  refine Ij b f k2 fun h5 f5 => ⟨_, rfl, ifB (fun e => ?_) fun e => ?_⟩
  ·have := hk h5 (f12.trans f5)
   rw [e] at this; exact this
  ·rw [e, Bool.false_or] at hk
   have cf5 := cf.fr0 f5
   have cb5 := cb.fr0 f5
   have k5 := aE.ok_fr _ _ _ f5 k2
   refine aG (cb5.at (j := 6) rfl) (ifB (fun e2 => ?_) fun e2 => ?_)
   ·rw [e2, Bool.true_and] at hk
    refine (aA (cb5.at0 rfl) (aA (cb5.at rfl) (aC (cb5.at rfl) (aC (cb5.at rfl) (aC (cb5.at rfl) (aC (cb5.at rfl) (aG (cb5.at rfl) (aA (cb5.at rfl) (aA (cb5.at rfl) (aA (cb5.at rfl) (aV (cb5.at rfl) (aA (cb5.at rfl) (aA (cb5.at rfl) (aC (cb5.at rfl) (aC (cb5.at rfl) (aC (cb5.at rfl) (aC (cb5.at rfl) (aA (cb5.at rfl) (aA (cb5.at rfl) (aA (cb5.at rfl) (aA (cb5.at rfl) (aC (cb5.at rfl) (aC (cb5.at rfl) (aC (cb5.at rfl) (aC (cb5.at rfl) ?_)))))))))))))))))))))))))
    refine aA (cf5.at0 rfl) (aG (cf5.at (j := 4) rfl) (aA (cf5.at (j := 5) rfl) (aA (cf5.at (j := 6) rfl) (aG (cf5.at (j := 1) rfl) (aA (cf5.at (j := 2) rfl) (aA (cf5.at (j := 3) rfl) (aA (cf5.at (j := 8) rfl) (aA (cf5.at (j := 7) rfl) ?_))))))))
    exact Ij b ⟨f.Proto, f.Dst, f.Src, f.Dport, f.Sport⟩ k5 fun h6 f6 => ⟨_, rfl, hk h6 ((f12.trans f5).trans f6)⟩
   ·rw [e2, Bool.false_and] at hk; exact hk h5 (f12.trans f5)
 refine aA (cb.at (j := 1) rfl) (aA (cf.at0 rfl) (ki (fun e => no fun hh => e hh.1) fun q1 => ?_))
 refine ki (fun d1 => ki (fun d2 => no fun hh => hh.2.1.elim d1 d2) fun d2 => ?_) fun d1 => ?_
 ·refine aA (cb.at (j := 11) rfl) (ki (fun e2 => aA (cb.at (j := 11) rfl) (ki (fun e3 => no fun hh => hh.2.2.elim e2 e3) fun e3 => b1 q1 (.inr d2) (.inr e3))) fun e2 => b1 q1 (.inr d2) (.inl e2))
 ·refine aA (cb.at (j := 11) rfl) (ki (fun e2 => aA (cb.at (j := 11) rfl) (ki (fun e3 => no fun hh => hh.2.2.elim e2 e3) fun e3 => b1 q1 (.inl d1) (.inr e3))) fun e2 => b1 q1 (.inl d1) (.inl e2))
end
end Go.Proofs.YtjmfpeiidlpngaaGreatDoor.Au
namespace Go.Proofs.YtjmfpeiidlpngaaGreatDoor
set_option linter.unusedSimpArgs false
set_option linter.unusedVariables false
set_option maxRecDepth 20000
open Go
open Go.IntKind (wrap)
theorem Fv : ii Tryz.prog lF sf Tryz.t139 (.agg #[.bool false, .string (bs []), .bool false, .int .u64 0, .int .u64 0, .int .i64 0]) := ⟨Tryz.underlying53, by kernel_rfl, by kernel_rfl, by kernel_rfl, by decide +kernel⟩
theorem oB (x : aO) : (aO.vals x).length = 6 := rfl
theorem CY (x : aO) : (aO.vals x).all eX = true := rfl
theorem vm [Gh] (s : Sl aO) {h : aB} (os : bH 6 aO.vals aO.ok h s) (hl : s.xs.length ≤ 2 ^ 20) {Q : Value → aB → Prop}
  (hk : ∀ p' c' h', Fr (fun _ => False) h h' → Row 6 aO.vals h' p' c' s.xs → (∀ x, InA p' x → h.size ≤ x) → Q (.slice p' s.xs.length c') h') :
  aD Tryz.prog cE #[.slice s.p s.xs.length s.cap] h Q := by
 apply lv
 unfold fW
 cases hp : s.p with
 | none =>
  rw [if_pos (by rfl)]
  have he : s.xs = [] := by
   cases hx : s.xs with
   | nil => rfl
   | cons a l =>
    obtain ⟨ad, h1, _⟩ := os.at_ 0 (by rw [hx]; simp)
    rw [hp] at h1; cases h1
  have := hk none 0 h (Fr.refl _ _) (by rw [he]; exact Row.nil) fun x hx => (dN hx).elim
  rw [he] at this; exact this
 | some ad =>
  rw [if_neg (by simp)]
  refine aX (vs := []) fun t5 h1 f1 e1 o1 => ?_
  have z1 := f1.size
  have R0 : Row 6 aO.vals h1 (some t5) 0 [] := Row.of_own (L := []) oB o1
  have src := (bH.fr0 aO.ok_fr f1 os).src oB
  rw [hp] at src
  refine R0.appL Fv Tryz.underlying53 (by intro k e; cases e) (by kernel_rfl) (by decide +kernel) oB CY src (by simp; omega) fun p' cap' h' R' f hn => ⟨_, _, _, rfl, ?_⟩
  refine hk p' cap' h' (f1.tr f fun x hx hh => ?_) R' fun x hx => ?_
  ·obtain ⟨a', h1, h2⟩ := hh; cases h1; omega
  ·rcases hn x hx with hh | hh
   ·obtain ⟨a', h1, h2⟩ := hh; cases h1; omega
   ·omega
theorem Fx : ii Tryz.prog lB oK Tryz.t142 (.agg #[.bool false, .string (bs []), .int .i64 0, .int .i64 0]) := ⟨Tryz.underlying54, by kernel_rfl, by kernel_rfl, by kernel_rfl, by decide +kernel⟩
theorem oN (x : aN) : (aN.vals x).length = 4 := rfl
theorem Db (x : aN) : (aN.vals x).all eX = true := rfl
theorem vo [Gh] (s : Sl aN) {h : aB} (os : bH 4 aN.vals aN.ok h s) (hl : s.xs.length ≤ 2 ^ 20) {Q : Value → aB → Prop}
  (hk : ∀ p' c' h', Fr (fun _ => False) h h' → Row 4 aN.vals h' p' c' s.xs → (∀ x, InA p' x → h.size ≤ x) → Q (.slice p' s.xs.length c') h') :
  aD Tryz.prog cF #[.slice s.p s.xs.length s.cap] h Q := by
 apply ll
 unfold fY
 cases hp : s.p with
 | none =>
  rw [if_pos (by rfl)]
  have he : s.xs = [] := by
   cases hx : s.xs with
   | nil => rfl
   | cons a l =>
    obtain ⟨ad, h1, _⟩ := os.at_ 0 (by rw [hx]; simp)
    rw [hp] at h1; cases h1
  have := hk none 0 h (Fr.refl _ _) (by rw [he]; exact Row.nil) fun x hx => (dN hx).elim
  rw [he] at this; exact this
 | some ad =>
  rw [if_neg (by simp)]
  refine aX (vs := []) fun t5 h1 f1 e1 o1 => ?_
  have z1 := f1.size
  have R0 : Row 4 aN.vals h1 (some t5) 0 [] := Row.of_own (L := []) oN o1
  have src := (bH.fr0 aN.ok_fr f1 os).src oN
  rw [hp] at src
  refine R0.appL Fx Tryz.underlying54 (by intro k e; cases e) (by kernel_rfl) (by decide +kernel) oN Db src (by simp; omega) fun p' cap' h' R' f hn => ⟨_, _, _, rfl, ?_⟩
  refine hk p' cap' h' (f1.tr f fun x hx hh => ?_) R' fun x hx => ?_
  ·obtain ⟨a', h1, h2⟩ := hh; cases h1; omega
  ·rcases hn x hx with hh | hh
   ·obtain ⟨a', h1, h2⟩ := hh; cases h1; omega
   ·omega
theorem He : ii Tryz.prog ml eQ Tryz.t133 (.agg #[.string (bs []), .bool false, .bool false, .bool false, .int .i64 0, .int .i64 0, .bool false]) := ⟨Tryz.underlying55, by kernel_rfl, by kernel_rfl, by kernel_rfl, by decide +kernel⟩
theorem sQ (x : aI) : (aI.vals x).length = 7 := rfl
theorem Es (x : aI) : (aI.vals x).all eX = true := rfl
theorem CI [Gh] (s : Sl aI) {h : aB} (os : bH 7 aI.vals aI.ok h s) (hl : s.xs.length ≤ 2 ^ 20) {Q : Value → aB → Prop}
  (hk : ∀ p' c' h', Fr (fun _ => False) h h' → Row 7 aI.vals h' p' c' s.xs → (∀ x, InA p' x → h.size ≤ x) → Q (.slice p' s.xs.length c') h') :
  aD Tryz.prog dJ #[.slice s.p s.xs.length s.cap] h Q := by
 apply lM
 unfold gU
 cases hp : s.p with
 | none =>
  rw [if_pos (by rfl)]
  have he : s.xs = [] := by
   cases hx : s.xs with
   | nil => rfl
   | cons a l =>
    obtain ⟨ad, h1, _⟩ := os.at_ 0 (by rw [hx]; simp)
    rw [hp] at h1; cases h1
  have := hk none 0 h (Fr.refl _ _) (by rw [he]; exact Row.nil) fun x hx => (dN hx).elim
  rw [he] at this; exact this
 | some ad =>
  rw [if_neg (by simp)]
  refine aX (vs := []) fun t5 h1 f1 e1 o1 => ?_
  have z1 := f1.size
  have R0 : Row 7 aI.vals h1 (some t5) 0 [] := Row.of_own (L := []) sQ o1
  have src := (bH.fr0 aI.ok_fr f1 os).src sQ
  rw [hp] at src
  refine R0.appL He Tryz.underlying55 (by intro k e; cases e) (by kernel_rfl) (by decide +kernel) sQ Es src (by simp; omega) fun p' cap' h' R' f hn => ⟨_, _, _, rfl, ?_⟩
  refine hk p' cap' h' (f1.tr f fun x hx hh => ?_) R' fun x hx => ?_
  ·obtain ⟨a', h1, h2⟩ := hh; cases h1; omega
  ·rcases hn x hx with hh | hh
   ·obtain ⟨a', h1, h2⟩ := hh; cases h1; omega
   ·omega
theorem L5 : ii Tryz.prog qe uU Tryz.t146 (.agg #[.int .i64 0, .int .i64 0, .int .i64 0, .int .i64 0, .bool false, .bool false, .bool false]) := ⟨Tryz.underlying56, by kernel_rfl, by kernel_rfl, by kernel_rfl, by decide +kernel⟩
theorem za (x : bO) : (bO.vals x).length = 7 := rfl
theorem IX (x : bO) : (bO.vals x).all eX = true := rfl
theorem FT [Gh] (s : Sl bO) {h : aB} (os : bH 7 bO.vals bO.ok h s) (hl : s.xs.length ≤ 2 ^ 20) {Q : Value → aB → Prop}
  (hk : ∀ p' c' h', Fr (fun _ => False) h h' → Row 7 bO.vals h' p' c' s.xs → (∀ x, InA p' x → h.size ≤ x) → Q (.slice p' s.xs.length c') h') :
  aD Tryz.prog fD #[.slice s.p s.xs.length s.cap] h Q := by
 apply oz
 unfold jr
 cases hp : s.p with
 | none =>
  rw [if_pos (by rfl)]
  have he : s.xs = [] := by
   cases hx : s.xs with
   | nil => rfl
   | cons a l =>
    obtain ⟨ad, h1, _⟩ := os.at_ 0 (by rw [hx]; simp)
    rw [hp] at h1; cases h1
  have := hk none 0 h (Fr.refl _ _) (by rw [he]; exact Row.nil) fun x hx => (dN hx).elim
  rw [he] at this; exact this
 | some ad =>
  rw [if_neg (by simp)]
  refine aX (vs := []) fun t5 h1 f1 e1 o1 => ?_
  have z1 := f1.size
  have R0 : Row 7 bO.vals h1 (some t5) 0 [] := Row.of_own (L := []) za o1
  have src := (bH.fr0 bO.ok_fr f1 os).src za
  rw [hp] at src
  refine R0.appL L5 Tryz.underlying56 (by intro k e; cases e) (by kernel_rfl) (by decide +kernel) za IX src (by simp; omega) fun p' cap' h' R' f hn => ⟨_, _, _, rfl, ?_⟩
  refine hk p' cap' h' (f1.tr f fun x hx hh => ?_) R' fun x hx => ?_
  ·obtain ⟨a', h1, h2⟩ := hh; cases h1; omega
  ·rcases hn x hx with hh | hh
   ·obtain ⟨a', h1, h2⟩ := hh; cases h1; omega
   ·omega
theorem ID : ii Tryz.prog m5 va Tryz.t149 (.agg #[.int .i64 0, .string (bs [])]) := ⟨Tryz.underlying57, by kernel_rfl, by kernel_rfl, by kernel_rfl, by decide +kernel⟩
theorem u4 (x : bB) : (bB.vals x).length = 2 := rfl
theorem Gx (x : bB) : (bB.vals x).all eX = true := rfl
theorem Dh [Gh] (s : Sl bB) {h : aB} (os : bH 2 bB.vals bB.ok h s) (hl : s.xs.length ≤ 2 ^ 20) {Q : Value → aB → Prop}
  (hk : ∀ p' c' h', Fr (fun _ => False) h h' → Row 2 bB.vals h' p' c' s.xs → (∀ x, InA p' x → h.size ≤ x) → Q (.slice p' s.xs.length c') h') :
  aD Tryz.prog eu #[.slice s.p s.xs.length s.cap] h Q := by
 apply mH
 unfold iv
 cases hp : s.p with
 | none =>
  rw [if_pos (by rfl)]
  have he : s.xs = [] := by
   cases hx : s.xs with
   | nil => rfl
   | cons a l =>
    obtain ⟨ad, h1, _⟩ := os.at_ 0 (by rw [hx]; simp)
    rw [hp] at h1; cases h1
  have := hk none 0 h (Fr.refl _ _) (by rw [he]; exact Row.nil) fun x hx => (dN hx).elim
  rw [he] at this; exact this
 | some ad =>
  rw [if_neg (by simp)]
  refine aX (vs := []) fun t5 h1 f1 e1 o1 => ?_
  have z1 := f1.size
  have R0 : Row 2 bB.vals h1 (some t5) 0 [] := Row.of_own (L := []) u4 o1
  have src := (bH.fr0 bB.ok_fr f1 os).src u4
  rw [hp] at src
  refine R0.appL ID Tryz.underlying57 (by intro k e; cases e) (by kernel_rfl) (by decide +kernel) u4 Gx src (by simp; omega) fun p' cap' h' R' f hn => ⟨_, _, _, rfl, ?_⟩
  refine hk p' cap' h' (f1.tr f fun x hx hh => ?_) R' fun x hx => ?_
  ·obtain ⟨a', h1, h2⟩ := hh; cases h1; omega
  ·rcases hn x hx with hh | hh
   ·obtain ⟨a', h1, h2⟩ := hh; cases h1; omega
   ·omega
theorem Lp : ii Tryz.prog oG lN Tryz.t152 (.agg #[.bool false, .int .u64 0, .int .u64 0, .bool false, .int .u64 0, .int .u64 0]) := ⟨Tryz.underlying62, by kernel_rfl, by kernel_rfl, by kernel_rfl, by decide +kernel⟩
theorem uj (x : aK) : (aK.vals x).length = 6 := rfl
theorem Hv (x : aK) : (aK.vals x).all eX = true := rfl
theorem yI [Gh] (s : Sl aK) {h : aB} (os : bH 6 aK.vals aK.ok h s) (hl : s.xs.length ≤ 2 ^ 20) {Q : Value → aB → Prop}
  (hk : ∀ p' c' h', Fr (fun _ => False) h h' → Row 6 aK.vals h' p' c' s.xs → (∀ x, InA p' x → h.size ≤ x) → Q (.slice p' s.xs.length c') h') :
  aD Tryz.prog cU #[.slice s.p s.xs.length s.cap] h Q := by
 apply nb
 unfold jb
 cases hp : s.p with
 | none =>
  rw [if_pos (by rfl)]
  have he : s.xs = [] := by
   cases hx : s.xs with
   | nil => rfl
   | cons a l =>
    obtain ⟨ad, h1, _⟩ := os.at_ 0 (by rw [hx]; simp)
    rw [hp] at h1; cases h1
  have := hk none 0 h (Fr.refl _ _) (by rw [he]; exact Row.nil) fun x hx => (dN hx).elim
  rw [he] at this; exact this
 | some ad =>
  rw [if_neg (by simp)]
  refine aX (vs := []) fun t5 h1 f1 e1 o1 => ?_
  have z1 := f1.size
  have R0 : Row 6 aK.vals h1 (some t5) 0 [] := Row.of_own (L := []) uj o1
  have src := (bH.fr0 aK.ok_fr f1 os).src uj
  rw [hp] at src
  refine R0.appL Lp Tryz.underlying62 (by intro k e; cases e) (by kernel_rfl) (by decide +kernel) uj Hv src (by simp; omega) fun p' cap' h' R' f hn => ⟨_, _, _, rfl, ?_⟩
  refine hk p' cap' h' (f1.tr f fun x hx hh => ?_) R' fun x hx => ?_
  ·obtain ⟨a', h1, h2⟩ := hh; cases h1; omega
  ·rcases hn x hx with hh | hh
   ·obtain ⟨a', h1, h2⟩ := hh; cases h1; omega
   ·omega
theorem Mc : ii Tryz.prog qg rI Tryz.t155 (.agg #[.int .i64 0, .int .i64 0]) := ⟨Tryz.underlying63, by kernel_rfl, by kernel_rfl, by kernel_rfl, by decide +kernel⟩
theorem wG (x : aP) : (aP.vals x).length = 2 := rfl
theorem I7 (x : aP) : (aP.vals x).all eX = true := rfl
theorem Bf [Gh] (s : Sl aP) {h : aB} (os : bH 2 aP.vals aP.ok h s) (hl : s.xs.length ≤ 2 ^ 20) {Q : Value → aB → Prop}
  (hk : ∀ p' c' h', Fr (fun _ => False) h h' → Row 2 aP.vals h' p' c' s.xs → (∀ x, InA p' x → h.size ≤ x) → Q (.slice p' s.xs.length c') h') :
  aD Tryz.prog cY #[.slice s.p s.xs.length s.cap] h Q := by
 apply pf
 unfold jz
 cases hp : s.p with
 | none =>
  rw [if_pos (by rfl)]
  have he : s.xs = [] := by
   cases hx : s.xs with
   | nil => rfl
   | cons a l =>
    obtain ⟨ad, h1, _⟩ := os.at_ 0 (by rw [hx]; simp)
    rw [hp] at h1; cases h1
  have := hk none 0 h (Fr.refl _ _) (by rw [he]; exact Row.nil) fun x hx => (dN hx).elim
  rw [he] at this; exact this
 | some ad =>
  rw [if_neg (by simp)]
  refine aX (vs := []) fun t5 h1 f1 e1 o1 => ?_
  have z1 := f1.size
  have R0 : Row 2 aP.vals h1 (some t5) 0 [] := Row.of_own (L := []) wG o1
  have src := (bH.fr0 aP.ok_fr f1 os).src wG
  rw [hp] at src
  refine R0.appL Mc Tryz.underlying63 (by intro k e; cases e) (by kernel_rfl) (by decide +kernel) wG I7 src (by simp; omega) fun p' cap' h' R' f hn => ⟨_, _, _, rfl, ?_⟩
  refine hk p' cap' h' (f1.tr f fun x hx hh => ?_) R' fun x hx => ?_
  ·obtain ⟨a', h1, h2⟩ := hh; cases h1; omega
  ·rcases hn x hx with hh | hh
   ·obtain ⟨a', h1, h2⟩ := hh; cases h1; omega
   ·omega
theorem M0 : ii Tryz.prog bF nY Tryz.t3 (.int .i64 0) := ⟨Tryz.underlying46, by kernel_rfl, by kernel_rfl, by kernel_rfl, by decide +kernel⟩
theorem Bu (x : Int) : ((fun n : Int => [Value.int .i64 n]) x).length = 1 := rfl
theorem Kd (x : Int) : ((fun n : Int => [Value.int .i64 n]) x).all eX = true := rfl
theorem yr [Gh] (s : Sl Int) {h : aB} (os : bH 1 (fun n : Int => [Value.int .i64 n]) (kOk .i64) h s) (hl : s.xs.length ≤ 2 ^ 20) {Q : Value → aB → Prop}
  (hk : ∀ p' c' h', Fr (fun _ => False) h h' → Row 1 (fun n : Int => [Value.int .i64 n]) h' p' c' s.xs → (∀ x, InA p' x → h.size ≤ x) → Q (.slice p' s.xs.length c') h') :
  aD Tryz.prog dO #[.slice s.p s.xs.length s.cap] h Q := by
 apply nZ
 unfold kH
 cases hp : s.p with
 | none =>
  rw [if_pos (by rfl)]
  have he : s.xs = [] := by
   cases hx : s.xs with
   | nil => rfl
   | cons a l =>
    obtain ⟨ad, h1, _⟩ := os.at_ 0 (by rw [hx]; simp)
    rw [hp] at h1; cases h1
  have := hk none 0 h (Fr.refl _ _) (by rw [he]; exact Row.nil) fun x hx => (dN hx).elim
  rw [he] at this; exact this
 | some ad =>
  rw [if_neg (by simp)]
  refine aX (vs := []) fun t5 h1 f1 e1 o1 => ?_
  have z1 := f1.size
  have R0 : Row 1 (fun n : Int => [Value.int .i64 n]) h1 (some t5) 0 [] := Row.of_own (L := []) Bu o1
  have src := (bH.fr0 wS f1 os).src Bu
  rw [hp] at src
  refine R0.appL M0 Tryz.underlying46 (by intro k e; cases e) (by kernel_rfl) (by decide +kernel) Bu Kd src (by simp; omega) fun p' cap' h' R' f hn => ⟨_, _, _, rfl, ?_⟩
  refine hk p' cap' h' (f1.tr f fun x hx hh => ?_) R' fun x hx => ?_
  ·obtain ⟨a', h1, h2⟩ := hh; cases h1; omega
  ·rcases hn x hx with hh | hh
   ·obtain ⟨a', h1, h2⟩ := hh; cases h1; omega
   ·omega
theorem BW {h h' : aB} {r : aL} (o : aL.ok h r) : aL.ok h' r :=
 ⟨o.k0, o.k1, o.k2⟩
theorem Hl {h h' : aB} {r : bW} (o : bW.ok h r) : bW.ok h' r :=
 ⟨BW o.k0, o.k1⟩
theorem zD {h h' : aB} {r : aO} (o : aO.ok h r) : aO.ok h' r :=
 ⟨o.k0, o.k1, Hl o.k2⟩
theorem yF {h h' : aB} {r : aN} (o : aN.ok h r) : aN.ok h' r :=
 ⟨o.k0, o.k1, o.k2, o.k3⟩
theorem Fh {h h' : aB} {r : aI} (o : aI.ok h r) : aI.ok h' r :=
 ⟨o.k0, o.k1, o.k2, o.k3, o.k4, o.k5, o.k6⟩
theorem Km {h h' : aB} {r : bO} (o : bO.ok h r) : bO.ok h' r :=
 ⟨o.k0, o.k1, o.k2, o.k3, o.k4, o.k5, o.k6⟩
theorem Hu {h h' : aB} {r : bB} (o : bB.ok h r) : bB.ok h' r :=
 ⟨o.k0, o.k1⟩
theorem DU {h h' : aB} {r : aK} (o : aK.ok h r) : aK.ok h' r :=
 ⟨BW o.k0, BW o.k1⟩
theorem Gc {h h' : aB} {r : aP} (o : aP.ok h r) : aP.ok h' r :=
 ⟨o.k0, o.k1⟩
theorem Dm {h h' : aB} {r : bL} (o : bL.ok h r) : bL.ok h' r :=
 ⟨o.k0, o.k1, o.k2, o.k3⟩
theorem LF {h h' : aB} {n : Int} (o : kOk .i64 h n) : kOk .i64 h' n := o
def St (B : Nat → Prop) (h : aB) (b : aE) : Prop := ∀ h', Fr (fun x => ¬ B x) h h' → aE.ok h' b
theorem St.now {B : Nat → Prop} {h : aB} {b : aE} (s : St B h b) : aE.ok h b := s h (Fr.refl _ _)
theorem St.fr {B B' S : Nat → Prop} {h h' : aB} {b : aE} (s : St B h b) (f : Fr S h h') (h1 : ∀ x, x < h.size → B x → ¬ S x) (h2 : ∀ x, x < h.size → B x → B' x) : St B' h' b := fun h'' f2 =>
 s h'' ⟨Nat.le_trans f.size f2.size, fun x hx hn => by
  have hB : B x := Classical.byContradiction hn
  rw [f2.same x (Nat.lt_of_lt_of_le hx f.size) (fun hh => hh (h2 x hx hB)), f.same x hx (h1 x hx hB)]⟩
def ux {α : Type} (s : Sl α) : Sl α := ⟨none, 0, s.xs⟩
def ME (r : aJ) : aJ := { r with Src := ux r.Src, Dst := ux r.Dst, SrcPorts := ux r.SrcPorts, DstPorts := ux r.DstPorts, Transforms := ux r.Transforms, Contents := ux r.Contents, Tests := ux r.Tests, Flow := ux r.Flow }
def wipe (b : aE) : aE := { Rule := ME b.Rule, Src := ux b.Src, Dst := ux b.Dst, SrcPorts := ux b.SrcPorts, DstPorts := ux b.DstPorts }
structure Nf (b : aE) : Prop where
 l2 : b.Rule.Src.xs.length ≤ 2 ^ 20
 l3 : b.Rule.Dst.xs.length ≤ 2 ^ 20
 l4 : b.Rule.SrcPorts.xs.length ≤ 2 ^ 20
 l5 : b.Rule.DstPorts.xs.length ≤ 2 ^ 20
 l13 : b.Rule.Transforms.xs.length ≤ 2 ^ 20
 l14 : b.Rule.Contents.xs.length ≤ 2 ^ 20
 l15 : b.Rule.Tests.xs.length ≤ 2 ^ 20
 l16 : b.Rule.Flow.xs.length ≤ 2 ^ 20
 l21 : b.Src.xs.length ≤ 2 ^ 20
 l22 : b.Dst.xs.length ≤ 2 ^ 20
 l23 : b.SrcPorts.xs.length ≤ 2 ^ 20
 l24 : b.DstPorts.xs.length ≤ 2 ^ 20
set_option maxHeartbeats 2000000 in
theorem K0 [Gh] (b : aE) {h : aB} (ok : aE.ok h b) (L : Nf b) {Q : Value → aB → Prop} (hk : ∀ (b' : aE) h', Fr (fun _ => False) h h' → St (fun x => h.size ≤ x) h' b' → wipe b' = wipe b → Q (.agg b'.vals.toArray) h') :
  aD Tryz.prog om #[.agg b.vals.toArray] h Q := by
 apply Az
 unfold uB
 refine aX (vs := b.vals) fun t1 h1 f1 e1 o1 => ?_
 have z1 := f1.size
 have lt1 := o1.lt
 refine aX (vs := [.int .i64 0, .int .i64 0, .slice none 0 0, .slice none 0 0, .slice none 0 0, .slice none 0 0, .bool false, .int .i64 0, .int .i64 0, .int .i64 0, .string (bs []), .int .i64 0, .int .i64 0, .slice none 0 0, .slice none 0 0, .slice none 0 0, .slice none 0 0, .int .i64 0, .int .i64 0, .int .i64 0, .int .i64 0, .slice none 0 0, .slice none 0 0, .slice none 0 0, .slice none 0 0]) fun t2 h2 f2 e2 o2 => ?_
 have z2 := f2.size
 have lt2 := o2.lt
 have F0 : Fr (fun _ => False) h h2 := f1.trans f2
 have c0 : Own h2 t1 b.vals cD := o1.fr0 f2
 have d0 := o2
 have k0 := aE.ok_fr _ _ _ F0 ok
 refine aC (c0.cells.at (j := 2) rfl) (aC (c0.cells.at (j := 3) rfl) ?_)
 refine vm b.Rule.Src k0.k0.k2 L.l2 fun p2 q2 ha0 fa0 R2 n2 => ⟨_, _, _, rfl, aC ((c0.fr0 fa0).cells.at (j := 3) rfl) rfl, ?_⟩
 have za0 := fa0.size
 refine vm b.Rule.Dst (aE.ok_fr _ _ _ fa0 k0).k0.k3 L.l3 fun p3 q3 hb0 fb0 R3 n3 => ⟨_, _, _, rfl, ?_⟩
 have zb0 := fb0.size
 refine cI ((c0.fr0 fa0).fr0 fb0) 2 (by show 2 < 25; omega) rfl fun hc0 fc0 zc0 oc0 => ?_
 refine cI oc0 3 (by show 3 < 25; omega) rfl fun hd0 fd0 zd0 od0 => ?_
 have zz0 := fc0.size
 have zy0 := fd0.size
 have g0 : Fr (fun x => x = t1.block) hb0 hd0 := fc0.trans fd0
 have F1 : Fr (fun _ => False) h hd0 := ((F0.trans fa0).trans fb0).tr g0 fun x hx hh => by omega
 have R2 := (R2.fr0 fb0).fr g0 fun x hx hh => by have := n2 x hx; omega
 have R3 := R3.fr g0 fun x hx hh => by have := n3 x hx; omega
 have c1 : Own hd0 t1 (aE.vals (⟨⟨b.Rule.Action, b.Rule.Proto, ⟨p2, q2, b.Rule.Src.xs⟩, ⟨p3, q3, b.Rule.Dst.xs⟩, b.Rule.SrcPorts, b.Rule.DstPorts, b.Rule.Both, b.Rule.Sid, b.Rule.Rev, b.Rule.Priority, b.Rule.Msg, b.Rule.Dir, b.Rule.Kind, b.Rule.Transforms, b.Rule.Contents, b.Rule.Tests, b.Rule.Flow, b.Rule.Threshold⟩, b.Src, b.Dst, b.SrcPorts, b.DstPorts⟩ : aE)) cD := od0
 have d1 := ((d0.fr0 fa0).fr0 fb0).fr g0 fun hh => by omega
 have k1 := aE.ok_fr _ _ _ F1 ok
 refine aC (c1.cells.at (j := 4) rfl) (aC (c1.cells.at (j := 5) rfl) ?_)
 refine vo b.Rule.SrcPorts k1.k0.k4 L.l4 fun p4 q4 ha1 fa1 R4 n4 => ⟨_, _, _, rfl, aC ((c1.fr0 fa1).cells.at (j := 5) rfl) rfl, ?_⟩
 have za1 := fa1.size
 refine vo b.Rule.DstPorts (aE.ok_fr _ _ _ fa1 k1).k0.k5 L.l5 fun p5 q5 hb1 fb1 R5 n5 => ⟨_, _, _, rfl, ?_⟩
 have zb1 := fb1.size
 refine cI ((c1.fr0 fa1).fr0 fb1) 4 (by show 4 < 25; omega) rfl fun hc1 fc1 zc1 oc1 => ?_
 refine cI oc1 5 (by show 5 < 25; omega) rfl fun hd1 fd1 zd1 od1 => ?_
 have zz1 := fc1.size
 have zy1 := fd1.size
 have g1 : Fr (fun x => x = t1.block) hb1 hd1 := fc1.trans fd1
 have F2 : Fr (fun _ => False) h hd1 := ((F1.trans fa1).trans fb1).tr g1 fun x hx hh => by omega
 have R4 := (R4.fr0 fb1).fr g1 fun x hx hh => by have := n4 x hx; omega
 have R5 := R5.fr g1 fun x hx hh => by have := n5 x hx; omega
 have R2 := ((R2.fr0 fa1).fr0 fb1).fr g1 fun x hx hh => by have := n2 x hx; omega
 have R3 := ((R3.fr0 fa1).fr0 fb1).fr g1 fun x hx hh => by have := n3 x hx; omega
 have c2 : Own hd1 t1 (aE.vals (⟨⟨b.Rule.Action, b.Rule.Proto, ⟨p2, q2, b.Rule.Src.xs⟩, ⟨p3, q3, b.Rule.Dst.xs⟩, ⟨p4, q4, b.Rule.SrcPorts.xs⟩, ⟨p5, q5, b.Rule.DstPorts.xs⟩, b.Rule.Both, b.Rule.Sid, b.Rule.Rev, b.Rule.Priority, b.Rule.Msg, b.Rule.Dir, b.Rule.Kind, b.Rule.Transforms, b.Rule.Contents, b.Rule.Tests, b.Rule.Flow, b.Rule.Threshold⟩, b.Src, b.Dst, b.SrcPorts, b.DstPorts⟩ : aE)) cD := od1
 have d2 := ((d1.fr0 fa1).fr0 fb1).fr g1 fun hh => by omega
 have k2 := aE.ok_fr _ _ _ F2 ok
 refine aC (c2.cells.at (j := 13) rfl) (aC (c2.cells.at (j := 14) rfl) ?_)
 refine yr b.Rule.Transforms k2.k0.k13 L.l13 fun p13 q13 ha2 fa2 R13 n13 => ⟨_, _, _, rfl, aC ((c2.fr0 fa2).cells.at (j := 14) rfl) rfl, ?_⟩
 have za2 := fa2.size
 refine CI b.Rule.Contents (aE.ok_fr _ _ _ fa2 k2).k0.k14 L.l14 fun p14 q14 hb2 fb2 R14 n14 => ⟨_, _, _, rfl, ?_⟩
 have zb2 := fb2.size
 refine cI ((c2.fr0 fa2).fr0 fb2) 13 (by show 13 < 25; omega) rfl fun hc2 fc2 zc2 oc2 => ?_
 refine cI oc2 14 (by show 14 < 25; omega) rfl fun hd2 fd2 zd2 od2 => ?_
 have zz2 := fc2.size
 have zy2 := fd2.size
 have g2 : Fr (fun x => x = t1.block) hb2 hd2 := fc2.trans fd2
 have F3 : Fr (fun _ => False) h hd2 := ((F2.trans fa2).trans fb2).tr g2 fun x hx hh => by omega
 have R13 := (R13.fr0 fb2).fr g2 fun x hx hh => by have := n13 x hx; omega
 have R14 := R14.fr g2 fun x hx hh => by have := n14 x hx; omega
 have R2 := ((R2.fr0 fa2).fr0 fb2).fr g2 fun x hx hh => by have := n2 x hx; omega
 have R3 := ((R3.fr0 fa2).fr0 fb2).fr g2 fun x hx hh => by have := n3 x hx; omega
 have R4 := ((R4.fr0 fa2).fr0 fb2).fr g2 fun x hx hh => by have := n4 x hx; omega
 have R5 := ((R5.fr0 fa2).fr0 fb2).fr g2 fun x hx hh => by have := n5 x hx; omega
 have c3 : Own hd2 t1 (aE.vals (⟨⟨b.Rule.Action, b.Rule.Proto, ⟨p2, q2, b.Rule.Src.xs⟩, ⟨p3, q3, b.Rule.Dst.xs⟩, ⟨p4, q4, b.Rule.SrcPorts.xs⟩, ⟨p5, q5, b.Rule.DstPorts.xs⟩, b.Rule.Both, b.Rule.Sid, b.Rule.Rev, b.Rule.Priority, b.Rule.Msg, b.Rule.Dir, b.Rule.Kind, ⟨p13, q13, b.Rule.Transforms.xs⟩, ⟨p14, q14, b.Rule.Contents.xs⟩, b.Rule.Tests, b.Rule.Flow, b.Rule.Threshold⟩, b.Src, b.Dst, b.SrcPorts, b.DstPorts⟩ : aE)) cD := od2
 have d3 := ((d2.fr0 fa2).fr0 fb2).fr g2 fun hh => by omega
 have k3 := aE.ok_fr _ _ _ F3 ok
 refine aC (c3.cells.at (j := 15) rfl) (aC (c3.cells.at (j := 16) rfl) ?_)
 refine FT b.Rule.Tests k3.k0.k15 L.l15 fun p15 q15 ha3 fa3 R15 n15 => ⟨_, _, _, rfl, aC ((c3.fr0 fa3).cells.at (j := 16) rfl) rfl, ?_⟩
 have za3 := fa3.size
 refine Dh b.Rule.Flow (aE.ok_fr _ _ _ fa3 k3).k0.k16 L.l16 fun p16 q16 hb3 fb3 R16 n16 => ⟨_, _, _, rfl, ?_⟩
 have zb3 := fb3.size
 refine cI ((c3.fr0 fa3).fr0 fb3) 15 (by show 15 < 25; omega) rfl fun hc3 fc3 zc3 oc3 => ?_
 refine cI oc3 16 (by show 16 < 25; omega) rfl fun hd3 fd3 zd3 od3 => ?_
 have zz3 := fc3.size
 have zy3 := fd3.size
 have g3 : Fr (fun x => x = t1.block) hb3 hd3 := fc3.trans fd3
 have F4 : Fr (fun _ => False) h hd3 := ((F3.trans fa3).trans fb3).tr g3 fun x hx hh => by omega
 have R15 := (R15.fr0 fb3).fr g3 fun x hx hh => by have := n15 x hx; omega
 have R16 := R16.fr g3 fun x hx hh => by have := n16 x hx; omega
 have R2 := ((R2.fr0 fa3).fr0 fb3).fr g3 fun x hx hh => by have := n2 x hx; omega
 have R3 := ((R3.fr0 fa3).fr0 fb3).fr g3 fun x hx hh => by have := n3 x hx; omega
 have R4 := ((R4.fr0 fa3).fr0 fb3).fr g3 fun x hx hh => by have := n4 x hx; omega
 have R5 := ((R5.fr0 fa3).fr0 fb3).fr g3 fun x hx hh => by have := n5 x hx; omega
 have R13 := ((R13.fr0 fa3).fr0 fb3).fr g3 fun x hx hh => by have := n13 x hx; omega
 have R14 := ((R14.fr0 fa3).fr0 fb3).fr g3 fun x hx hh => by have := n14 x hx; omega
 have c4 : Own hd3 t1 (aE.vals (⟨⟨b.Rule.Action, b.Rule.Proto, ⟨p2, q2, b.Rule.Src.xs⟩, ⟨p3, q3, b.Rule.Dst.xs⟩, ⟨p4, q4, b.Rule.SrcPorts.xs⟩, ⟨p5, q5, b.Rule.DstPorts.xs⟩, b.Rule.Both, b.Rule.Sid, b.Rule.Rev, b.Rule.Priority, b.Rule.Msg, b.Rule.Dir, b.Rule.Kind, ⟨p13, q13, b.Rule.Transforms.xs⟩, ⟨p14, q14, b.Rule.Contents.xs⟩, ⟨p15, q15, b.Rule.Tests.xs⟩, ⟨p16, q16, b.Rule.Flow.xs⟩, b.Rule.Threshold⟩, b.Src, b.Dst, b.SrcPorts, b.DstPorts⟩ : aE)) cD := od3
 have d4 := ((d3.fr0 fa3).fr0 fb3).fr g3 fun hh => by omega
 have k4 := aE.ok_fr _ _ _ F4 ok
 refine aC (c4.cells.at (j := 21) rfl) (aC (c4.cells.at (j := 22) rfl) ?_)
 refine yI b.Src k4.k1 L.l21 fun p21 q21 ha4 fa4 R21 n21 => ⟨_, _, _, rfl, aC ((c4.fr0 fa4).cells.at (j := 22) rfl) rfl, ?_⟩
 have za4 := fa4.size
 refine yI b.Dst (aE.ok_fr _ _ _ fa4 k4).k2 L.l22 fun p22 q22 hb4 fb4 R22 n22 => ⟨_, _, _, rfl, ?_⟩
 have zb4 := fb4.size
 refine cI ((c4.fr0 fa4).fr0 fb4) 21 (by show 21 < 25; omega) rfl fun hc4 fc4 zc4 oc4 => ?_
 refine cI oc4 22 (by show 22 < 25; omega) rfl fun hd4 fd4 zd4 od4 => ?_
 have zz4 := fc4.size
 have zy4 := fd4.size
 have g4 : Fr (fun x => x = t1.block) hb4 hd4 := fc4.trans fd4
 have F5 : Fr (fun _ => False) h hd4 := ((F4.trans fa4).trans fb4).tr g4 fun x hx hh => by omega
 have R21 := (R21.fr0 fb4).fr g4 fun x hx hh => by have := n21 x hx; omega
 have R22 := R22.fr g4 fun x hx hh => by have := n22 x hx; omega
 have R2 := ((R2.fr0 fa4).fr0 fb4).fr g4 fun x hx hh => by have := n2 x hx; omega
 have R3 := ((R3.fr0 fa4).fr0 fb4).fr g4 fun x hx hh => by have := n3 x hx; omega
 have R4 := ((R4.fr0 fa4).fr0 fb4).fr g4 fun x hx hh => by have := n4 x hx; omega
 have R5 := ((R5.fr0 fa4).fr0 fb4).fr g4 fun x hx hh => by have := n5 x hx; omega
 have R13 := ((R13.fr0 fa4).fr0 fb4).fr g4 fun x hx hh => by have := n13 x hx; omega
 have R14 := ((R14.fr0 fa4).fr0 fb4).fr g4 fun x hx hh => by have := n14 x hx; omega
 have R15 := ((R15.fr0 fa4).fr0 fb4).fr g4 fun x hx hh => by have := n15 x hx; omega
 have R16 := ((R16.fr0 fa4).fr0 fb4).fr g4 fun x hx hh => by have := n16 x hx; omega
 have c5 : Own hd4 t1 (aE.vals (⟨⟨b.Rule.Action, b.Rule.Proto, ⟨p2, q2, b.Rule.Src.xs⟩, ⟨p3, q3, b.Rule.Dst.xs⟩, ⟨p4, q4, b.Rule.SrcPorts.xs⟩, ⟨p5, q5, b.Rule.DstPorts.xs⟩, b.Rule.Both, b.Rule.Sid, b.Rule.Rev, b.Rule.Priority, b.Rule.Msg, b.Rule.Dir, b.Rule.Kind, ⟨p13, q13, b.Rule.Transforms.xs⟩, ⟨p14, q14, b.Rule.Contents.xs⟩, ⟨p15, q15, b.Rule.Tests.xs⟩, ⟨p16, q16, b.Rule.Flow.xs⟩, b.Rule.Threshold⟩, ⟨p21, q21, b.Src.xs⟩, ⟨p22, q22, b.Dst.xs⟩, b.SrcPorts, b.DstPorts⟩ : aE)) cD := od4
 have d5 := ((d4.fr0 fa4).fr0 fb4).fr g4 fun hh => by omega
 have k5 := aE.ok_fr _ _ _ F5 ok
 refine aC (c5.cells.at (j := 23) rfl) (aC (c5.cells.at (j := 24) rfl) ?_)
 refine Bf b.SrcPorts k5.k3 L.l23 fun p23 q23 ha5 fa5 R23 n23 => ⟨_, _, _, rfl, aC ((c5.fr0 fa5).cells.at (j := 24) rfl) rfl, ?_⟩
 have za5 := fa5.size
 refine Bf b.DstPorts (aE.ok_fr _ _ _ fa5 k5).k4 L.l24 fun p24 q24 hb5 fb5 R24 n24 => ⟨_, _, _, rfl, ?_⟩
 have zb5 := fb5.size
 refine cI ((c5.fr0 fa5).fr0 fb5) 23 (by show 23 < 25; omega) rfl fun hc5 fc5 zc5 oc5 => ?_
 refine cI oc5 24 (by show 24 < 25; omega) rfl fun hd5 fd5 zd5 od5 => ?_
 have zz5 := fc5.size
 have zy5 := fd5.size
 have g5 : Fr (fun x => x = t1.block) hb5 hd5 := fc5.trans fd5
 have F6 : Fr (fun _ => False) h hd5 := ((F5.trans fa5).trans fb5).tr g5 fun x hx hh => by omega
 have R23 := (R23.fr0 fb5).fr g5 fun x hx hh => by have := n23 x hx; omega
 have R24 := R24.fr g5 fun x hx hh => by have := n24 x hx; omega
 have R2 := ((R2.fr0 fa5).fr0 fb5).fr g5 fun x hx hh => by have := n2 x hx; omega
 have R3 := ((R3.fr0 fa5).fr0 fb5).fr g5 fun x hx hh => by have := n3 x hx; omega
 have R4 := ((R4.fr0 fa5).fr0 fb5).fr g5 fun x hx hh => by have := n4 x hx; omega
 have R5 := ((R5.fr0 fa5).fr0 fb5).fr g5 fun x hx hh => by have := n5 x hx; omega
 have R13 := ((R13.fr0 fa5).fr0 fb5).fr g5 fun x hx hh => by have := n13 x hx; omega
 have R14 := ((R14.fr0 fa5).fr0 fb5).fr g5 fun x hx hh => by have := n14 x hx; omega
 have R15 := ((R15.fr0 fa5).fr0 fb5).fr g5 fun x hx hh => by have := n15 x hx; omega
 have R16 := ((R16.fr0 fa5).fr0 fb5).fr g5 fun x hx hh => by have := n16 x hx; omega
 have R21 := ((R21.fr0 fa5).fr0 fb5).fr g5 fun x hx hh => by have := n21 x hx; omega
 have R22 := ((R22.fr0 fa5).fr0 fb5).fr g5 fun x hx hh => by have := n22 x hx; omega
 have c6 : Own hd5 t1 (aE.vals (⟨⟨b.Rule.Action, b.Rule.Proto, ⟨p2, q2, b.Rule.Src.xs⟩, ⟨p3, q3, b.Rule.Dst.xs⟩, ⟨p4, q4, b.Rule.SrcPorts.xs⟩, ⟨p5, q5, b.Rule.DstPorts.xs⟩, b.Rule.Both, b.Rule.Sid, b.Rule.Rev, b.Rule.Priority, b.Rule.Msg, b.Rule.Dir, b.Rule.Kind, ⟨p13, q13, b.Rule.Transforms.xs⟩, ⟨p14, q14, b.Rule.Contents.xs⟩, ⟨p15, q15, b.Rule.Tests.xs⟩, ⟨p16, q16, b.Rule.Flow.xs⟩, b.Rule.Threshold⟩, ⟨p21, q21, b.Src.xs⟩, ⟨p22, q22, b.Dst.xs⟩, ⟨p23, q23, b.SrcPorts.xs⟩, ⟨p24, q24, b.DstPorts.xs⟩⟩ : aE)) cD := od5
 have d6 := ((d5.fr0 fa5).fr0 fb5).fr g5 fun hh => by omega
 clear k0 k1 k2 k3 k4 k5
 refine (aA (c6.cells.at0 rfl) (aA (c6.cells.at rfl) (aC (c6.cells.at rfl) (aC (c6.cells.at rfl) (aC (c6.cells.at rfl) (aC (c6.cells.at rfl) (aG (c6.cells.at rfl) (aA (c6.cells.at rfl) (aA (c6.cells.at rfl) (aA (c6.cells.at rfl) (aV (c6.cells.at rfl) (aA (c6.cells.at rfl) (aA (c6.cells.at rfl) (aC (c6.cells.at rfl) (aC (c6.cells.at rfl) (aC (c6.cells.at rfl) (aC (c6.cells.at rfl) (aA (c6.cells.at rfl) (aA (c6.cells.at rfl) (aA (c6.cells.at rfl) (aA (c6.cells.at rfl) (aC (c6.cells.at rfl) (aC (c6.cells.at rfl) (aC (c6.cells.at rfl) (aC (c6.cells.at rfl) ?_)))))))))))))))))))))))))
 refine ig d6 (ws := aE.vals (⟨⟨b.Rule.Action, b.Rule.Proto, ⟨p2, q2, b.Rule.Src.xs⟩, ⟨p3, q3, b.Rule.Dst.xs⟩, ⟨p4, q4, b.Rule.SrcPorts.xs⟩, ⟨p5, q5, b.Rule.DstPorts.xs⟩, b.Rule.Both, b.Rule.Sid, b.Rule.Rev, b.Rule.Priority, b.Rule.Msg, b.Rule.Dir, b.Rule.Kind, ⟨p13, q13, b.Rule.Transforms.xs⟩, ⟨p14, q14, b.Rule.Contents.xs⟩, ⟨p15, q15, b.Rule.Tests.xs⟩, ⟨p16, q16, b.Rule.Flow.xs⟩, b.Rule.Threshold⟩, ⟨p21, q21, b.Src.xs⟩, ⟨p22, q22, b.Dst.xs⟩, ⟨p23, q23, b.SrcPorts.xs⟩, ⟨p24, q24, b.DstPorts.xs⟩⟩ : aE)) (by rfl) (by rfl) fun h9 f9 z9 o9 => ?_
 have zz9 := f9.size
 have F9 : Fr (fun _ => False) h h9 := F6.tr f9 fun x hx hh => by omega
 have k9 := aE.ok_fr _ _ _ F9 ok
 refine (aA (o9.cells.at0 rfl) (aA (o9.cells.at rfl) (aC (o9.cells.at rfl) (aC (o9.cells.at rfl) (aC (o9.cells.at rfl) (aC (o9.cells.at rfl) (aG (o9.cells.at rfl) (aA (o9.cells.at rfl) (aA (o9.cells.at rfl) (aA (o9.cells.at rfl) (aV (o9.cells.at rfl) (aA (o9.cells.at rfl) (aA (o9.cells.at rfl) (aC (o9.cells.at rfl) (aC (o9.cells.at rfl) (aC (o9.cells.at rfl) (aC (o9.cells.at rfl) (aA (o9.cells.at rfl) (aA (o9.cells.at rfl) (aA (o9.cells.at rfl) (aA (o9.cells.at rfl) (aC (o9.cells.at rfl) (aC (o9.cells.at rfl) (aC (o9.cells.at rfl) (aC (o9.cells.at rfl) ?_)))))))))))))))))))))))))
 refine hk (⟨⟨b.Rule.Action, b.Rule.Proto, ⟨p2, q2, b.Rule.Src.xs⟩, ⟨p3, q3, b.Rule.Dst.xs⟩, ⟨p4, q4, b.Rule.SrcPorts.xs⟩, ⟨p5, q5, b.Rule.DstPorts.xs⟩, b.Rule.Both, b.Rule.Sid, b.Rule.Rev, b.Rule.Priority, b.Rule.Msg, b.Rule.Dir, b.Rule.Kind, ⟨p13, q13, b.Rule.Transforms.xs⟩, ⟨p14, q14, b.Rule.Contents.xs⟩, ⟨p15, q15, b.Rule.Tests.xs⟩, ⟨p16, q16, b.Rule.Flow.xs⟩, b.Rule.Threshold⟩, ⟨p21, q21, b.Src.xs⟩, ⟨p22, q22, b.Dst.xs⟩, ⟨p23, q23, b.SrcPorts.xs⟩, ⟨p24, q24, b.DstPorts.xs⟩⟩ : aE) h9 F9 (fun h10 f10 => ?_) rfl
 exact ⟨⟨k9.k0.k0, k9.k0.k1, ((R2.fr f9 fun x hx hh => by have := n2 x hx; omega).fr f10 fun x hx hh => hh (by have := n2 x hx; omega)).sl oB (by decide) k9.k0.k2.cap (fun x hx => by obtain ⟨m, hm, rfl⟩ := List.mem_iff_getElem.1 hx; obtain ⟨_, _, _, hx⟩ := k9.k0.k2.at_ m hm; exact zD hx), ((R3.fr f9 fun x hx hh => by have := n3 x hx; omega).fr f10 fun x hx hh => hh (by have := n3 x hx; omega)).sl oB (by decide) k9.k0.k3.cap (fun x hx => by obtain ⟨m, hm, rfl⟩ := List.mem_iff_getElem.1 hx; obtain ⟨_, _, _, hx⟩ := k9.k0.k3.at_ m hm; exact zD hx), ((R4.fr f9 fun x hx hh => by have := n4 x hx; omega).fr f10 fun x hx hh => hh (by have := n4 x hx; omega)).sl oN (by decide) k9.k0.k4.cap (fun x hx => by obtain ⟨m, hm, rfl⟩ := List.mem_iff_getElem.1 hx; obtain ⟨_, _, _, hx⟩ := k9.k0.k4.at_ m hm; exact yF hx), ((R5.fr f9 fun x hx hh => by have := n5 x hx; omega).fr f10 fun x hx hh => hh (by have := n5 x hx; omega)).sl oN (by decide) k9.k0.k5.cap (fun x hx => by obtain ⟨m, hm, rfl⟩ := List.mem_iff_getElem.1 hx; obtain ⟨_, _, _, hx⟩ := k9.k0.k5.at_ m hm; exact yF hx), k9.k0.k6, k9.k0.k7, k9.k0.k8, k9.k0.k9, k9.k0.k10, k9.k0.k11, k9.k0.k12, ((R13.fr f9 fun x hx hh => by have := n13 x hx; omega).fr f10 fun x hx hh => hh (by have := n13 x hx; omega)).sl Bu (by decide) k9.k0.k13.cap (fun x hx => by obtain ⟨m, hm, rfl⟩ := List.mem_iff_getElem.1 hx; obtain ⟨_, _, _, hx⟩ := k9.k0.k13.at_ m hm; exact LF hx), ((R14.fr f9 fun x hx hh => by have := n14 x hx; omega).fr f10 fun x hx hh => hh (by have := n14 x hx; omega)).sl sQ (by decide) k9.k0.k14.cap (fun x hx => by obtain ⟨m, hm, rfl⟩ := List.mem_iff_getElem.1 hx; obtain ⟨_, _, _, hx⟩ := k9.k0.k14.at_ m hm; exact Fh hx), ((R15.fr f9 fun x hx hh => by have := n15 x hx; omega).fr f10 fun x hx hh => hh (by have := n15 x hx; omega)).sl za (by decide) k9.k0.k15.cap (fun x hx => by obtain ⟨m, hm, rfl⟩ := List.mem_iff_getElem.1 hx; obtain ⟨_, _, _, hx⟩ := k9.k0.k15.at_ m hm; exact Km hx), ((R16.fr f9 fun x hx hh => by have := n16 x hx; omega).fr f10 fun x hx hh => hh (by have := n16 x hx; omega)).sl u4 (by decide) k9.k0.k16.cap (fun x hx => by obtain ⟨m, hm, rfl⟩ := List.mem_iff_getElem.1 hx; obtain ⟨_, _, _, hx⟩ := k9.k0.k16.at_ m hm; exact Hu hx), Dm k9.k0.k17⟩, ((R21.fr f9 fun x hx hh => by have := n21 x hx; omega).fr f10 fun x hx hh => hh (by have := n21 x hx; omega)).sl uj (by decide) k9.k1.cap (fun x hx => by obtain ⟨m, hm, rfl⟩ := List.mem_iff_getElem.1 hx; obtain ⟨_, _, _, hx⟩ := k9.k1.at_ m hm; exact DU hx), ((R22.fr f9 fun x hx hh => by have := n22 x hx; omega).fr f10 fun x hx hh => hh (by have := n22 x hx; omega)).sl uj (by decide) k9.k2.cap (fun x hx => by obtain ⟨m, hm, rfl⟩ := List.mem_iff_getElem.1 hx; obtain ⟨_, _, _, hx⟩ := k9.k2.at_ m hm; exact DU hx), ((R23.fr f9 fun x hx hh => by have := n23 x hx; omega).fr f10 fun x hx hh => hh (by have := n23 x hx; omega)).sl wG (by decide) k9.k3.cap (fun x hx => by obtain ⟨m, hm, rfl⟩ := List.mem_iff_getElem.1 hx; obtain ⟨_, _, _, hx⟩ := k9.k3.at_ m hm; exact Gc hx), ((R24.fr f9 fun x hx hh => by have := n24 x hx; omega).fr f10 fun x hx hh => hh (by have := n24 x hx; omega)).sl wG (by decide) k9.k4.cap (fun x hx => by obtain ⟨m, hm, rfl⟩ := List.mem_iff_getElem.1 hx; obtain ⟨_, _, _, hx⟩ := k9.k4.at_ m hm; exact Gc hx)⟩
end Go.Proofs.YtjmfpeiidlpngaaGreatDoor
namespace Go.Proofs.YtjmfpeiidlpngaaGreatDoor
set_option linter.unusedSimpArgs false
set_option linter.unusedVariables false
set_option maxRecDepth 20000
open Go
abbrev Ent (κ : Type) := κ × Value × Nat
section
variable {P : Program} {κ : Type} {enc : κ → Value}
def mkE (enc : κ → Value) (e : Ent κ) : MapEntry := ⟨enc e.1, e.2.1, e.2.2⟩
def prE (e : Ent κ) : κ × Value := (e.1, e.2.1)
def uC [DecidableEq κ] (a : κ) : List (Ent κ) → Nat → Option (Nat × Value)
 | [], _ => none
 | e :: es, i => if a = e.1 then some (i, e.2.1) else uC a es (i + 1)
structure Mp (P : Program) (kt : TypeId) {κ : Type} [DecidableEq κ] (enc : κ → Value) : Prop where
 same : ∀ a, Instr.sameBits 10000 (enc a) (enc a) = true
 check : ∀ (b : Bool) (a : κ) {h : aB} {K : Unit → aB → Prop}, K () h → wpH P (Instr.checkKey b 10000 kt (enc a)) K h
 find : ∀ (a : κ) (es : List (Ent κ)) {h : aB} {K : Option (Nat × Value) → aB → Prop}, K (uC a es 0) h → wpH P (Instr.findKey kt (enc a) (es.map (mkE enc))) K h
structure NR {κ : Type} (es : List (Ent κ)) (clock : Nat) : Prop where
 keys : (es.map (·.1)).Nodup
 borns : (es.map (·.2.2)).Nodup
 lt : ∀ e ∈ es, e.2.2 < clock
def HG (enc : κ → Value) (h : aB) (r : Nat) (es : List (Ent κ)) (clock : Nat) : Prop := h[r]? = some (.map (es.map (mkE enc)).toArray clock)
def xn (enc : κ → Value) (h : aB) (r : Nat) (m : List (κ × Value)) : Prop := ∃ es clock, HG enc h r es clock ∧ NR es clock ∧ es.map prE = m
def qm {κ : Type} [DecidableEq κ] (m : List (κ × Value)) (a : κ) : Option Value := (m.find? fun e => decide (e.1 = a)).map (·.2)
def FL {κ : Type} [DecidableEq κ] (m : List (κ × Value)) (a : κ) (v : Value) : List (κ × Value) := if (qm m a).isSome then m.map (fun e => if e.1 = a then (e.1, v) else e) else m ++ [(a, v)]
theorem xn.fr {S : Nat → Prop} {h h' : aB} {r : Nat} {m : List (κ × Value)} (I : xn enc h r m) (f : Fr S h h') (hn : ¬ S r) : xn enc h' r m := by
 obtain ⟨es, c, h1, h2, h3⟩ := I; exact ⟨es, c, f.get h1 hn, h2, h3⟩
theorem xn.lt {h : aB} {r : Nat} {m : List (κ × Value)} (I : xn enc h r m) : r < h.size := by
 obtain ⟨es, c, h1, _⟩ := I; exact ry h1
section
variable [DecidableEq κ]
theorem DY (a : κ) : ∀ (es : List (Ent κ)) (i : Nat), (uC a es i).map (·.2) = qm (es.map prE) a
 | [], _ => rfl
 | e :: es, i => by
  unfold uC qm
  rw [List.map_cons, List.find?_cons]
  by_cases h : a = e.1
  ·rw [if_pos h]; simp [prE, h]
  ·rw [if_neg h, DY a es (i + 1)]
   have : decide ((prE e).1 = a) = false := by rw [decide_eq_false_iff_not]; exact fun (h' : e.1 = a) => h h'.symm
   rw [this]; rfl
theorem DS (a : κ) : ∀ (es : List (Ent κ)) (i j : Nat) (v : Value), uC a es i = some (j, v) → ∃ k, ∃ hk : k < es.length, j = i + k ∧ es[k].1 = a ∧ es[k].2.1 = v
 | [], _, _, _, h => by cases h
 | e :: es, i, j, v, h => by
  unfold uC at h
  by_cases ha : a = e.1
  ·rw [if_pos ha] at h
   simp only [Option.some.injEq, Prod.mk.injEq] at h
   exact ⟨0, by simp, by omega, ha.symm, h.2⟩
  ·rw [if_neg ha] at h
   obtain ⟨k, hk, e1, e2, e3⟩ := DS a es (i + 1) j v h
   exact ⟨k + 1, by simp; omega, by omega, e2, e3⟩
theorem ym (a : κ) : ∀ (es : List (Ent κ)) (i : Nat), uC a es i = none → ∀ e ∈ es, e.1 ≠ a
 | [], _, _, _, he => by cases he
 | e :: es, i, h, x, hx => by
  unfold uC at h
  by_cases ha : a = e.1
  ·rw [if_pos ha] at h; cases h
  ·rw [if_neg ha] at h
   rcases List.mem_cons.1 hx with rfl | hx
   ·exact fun h => ha h.symm
   ·exact ym a es (i + 1) h x hx
end
theorem CN {h : aB} {r : Nat} {o : Obj} (ho : h[r]? = some o) (hn : AG o = true) {K : Obj → aB → Prop} (hk : K o h) : wpH P (getObj r) K h := ⟨o, ho, hn, hk⟩
theorem CT {h : aB} {r : Nat} {o o' : Obj} (ho : h[r]? = some o') (hn : AG o' = true) {K : Unit → aB → Prop} (hk : K () (h.setIfInBounds r o)) : wpH P (setObj r o) K h := ⟨⟨o', ho, hn⟩, hk⟩
theorem yS [DecidableEq κ] {mt kt et : TypeId} (T : Mp P kt enc) (hu : P.underlying mt = some (.map kt et)) {z : Value} (hz : ∀ {h : aB} {K : Value → aB → Prop}, K z h → wpH P (zeroValue et) K h)
  {h : aB} {r : Nat} {m : List (κ × Value)} (I : xn enc h r m) (a : κ) (ok : Bool) {K : Value → aB → Prop}
  (hk : K (if ok then .tuple #[(qm m a).getD z, .bool (qm m a).isSome] else (qm m a).getD z) h) : Cs P mt (.map (some r)) (enc a) ok h K := by
 obtain ⟨es, c, h1, h2, rfl⟩ := I
 unfold Cs Instr.lookup
 simp only [bind]
 rw [aT]; refine bX hu ?_
 simp only
 rw [aT]; refine CN h1 rfl ?_
 simp only [pure, Sem.bind]
 rw [aT]; refine T.check _ a ?_
 rw [aT]
 refine T.find a es ?_
 rw [← DY a es 0] at hk
 cases hf : uC a es 0 with
 | none =>
  rw [hf] at hk
  simp only
  rw [aT]; refine hz ?_
  exact hk
 | some x =>
  rw [hf] at hk
  exact hk
theorem Oo {es : List (Ent κ)} {k : Nat} (hk : k < es.length) (f : MapEntry → MapEntry) (e' : Ent κ) (h : f (mkE enc es[k]) = mkE enc e') : ((es.map (mkE enc)).toArray.modify k f) = ((es.set k e').map (mkE enc)).toArray := by
 apply Array.ext_getElem?
 intro i
 rw [Array.getElem?_modify, List.getElem?_toArray, List.getElem?_toArray, List.getElem?_map, List.getElem?_map, List.getElem?_set]
 by_cases e : k = i
 ·subst e
  rw [if_pos rfl, if_pos rfl, if_pos hk, List.getElem?_eq_getElem hk]
  simp [h]
 ·rw [if_neg e, if_neg e]
theorem ED {α β : Type} (f : α → β) (l : List α) (k : Nat) (x : α) : (l.set k x).map f = (l.map f).set k (f x) := List.map_set
theorem lY {α : Type} (l : List α) (k : Nat) (hk : k < l.length) : l.set k l[k] = l := by
 apply List.ext_getElem (by simp)
 intro i h1 h2
 rw [List.getElem_set]
 split
 ·rename_i e; subst e; rfl
 ·rfl
theorem Mb [DecidableEq κ] {m : List (κ × Value)} (nd : (m.map (·.1)).Nodup) {k : Nat} (hk : k < m.length) {a : κ} (ha : m[k].1 = a) (v : Value) : m.map (fun e => if e.1 = a then (e.1, v) else e) = m.set k (a, v) := by
 apply List.ext_getElem (by simp)
 intro i h1 h2
 have hi : i < m.length := by simpa using h1
 rw [List.getElem_map, List.getElem_set]
 split
 ·rename_i e
  split
  ·rw [e]
  ·rename_i hne
   have : i = k := by
    have := (List.getElem_inj (h₀ := by simpa using hi) (h₁ := by simpa using hk) nd).1 (by simp only [List.getElem_map]; rw [e, ha])
    exact this
   exact absurd this.symm hne
 ·rename_i e
  split
  ·rename_i e2; subst e2; exact absurd ha e
  ·rfl
theorem ue [DecidableEq κ] {m : List (κ × Value)} {a : κ} : (qm m a).isSome = true ↔ ∃ e ∈ m, e.1 = a := by
 unfold qm
 rw [Option.isSome_map, List.find?_isSome]
 simp
theorem DW [DecidableEq κ] {mt kt et : TypeId} (T : Mp P kt enc) (hu : P.underlying mt = some (.map kt et)) {h : aB} {r : Nat} {m : List (κ × Value)} (I : xn enc h r m) (a : κ) (v : Value) {K : aB → Prop}
  (hk : ∀ h', Fr (fun b => b = r) h h' → h'.size = h.size → xn enc h' r (FL m a v) → K h') : sZ P mt (.map (some r)) (enc a) v h K := by
 obtain ⟨es, c, h1, h2, rfl⟩ := I
 unfold sZ Instr.mapUpdate
 simp only [bind]
 rw [aT]; refine bX hu ?_
 simp only
 rw [aT]; refine CN h1 rfl ?_
 simp only
 rw [aT]; refine T.check _ a ?_
 rw [aT]
 refine T.find a es ?_
 cases hf : uC a es 0 with
 | none =>
  simp only
  refine CT h1 rfl (hk _ (Fr.set _ _ rfl) (by simp) ⟨es ++ [(a, v, c)], c + 1, ?_, ?_, ?_⟩)
  ·unfold HG
   rw [mr h1]; simp [mkE]
  ·have hn := ym a es 0 hf
   refine ⟨?_, ?_, ?_⟩
   ·rw [List.map_append, List.nodup_append]
    refine ⟨h2.keys, by simp, fun x hx y hy => ?_⟩
    obtain ⟨e, he, rfl⟩ := List.mem_map.1 hx
    simp at hy; subst hy
    exact hn e he
   ·rw [List.map_append, List.nodup_append]
    refine ⟨h2.borns, by simp, fun x hx y hy => ?_⟩
    obtain ⟨e, he, rfl⟩ := List.mem_map.1 hx
    simp at hy; subst hy
    have := h2.lt e he; omega
   ·intro e he
    rcases List.mem_append.1 he with he | he
    ·have := h2.lt e he; omega
    ·simp at he; subst he; simp
  ·have hn := ym a es 0 hf
   have : ¬ (qm (es.map prE) a).isSome = true := fun h => by
    obtain ⟨e, he, ha⟩ := ue.1 h
    obtain ⟨x, hx, rfl⟩ := List.mem_map.1 he
    exact hn x hx ha
   unfold FL
   rw [if_neg this]; simp [prE]
 | some x =>
  obtain ⟨j, y⟩ := x
  obtain ⟨k, hkl, ej, ea, ev⟩ := DS a es 0 j y hf
  have ej : j = k := by omega
  subst ej
  simp only
  rw [aT]
  have hkey : (((es.map (mkE enc)).toArray[j]?).map (·.key)).getD (enc a) = enc a := by
   simp [hkl, mkE, ea]
  unfold Instr.keyThatStays
  rw [hkey, T.same]
  simp only [if_true]
  refine CT h1 rfl (hk _ (Fr.set _ _ rfl) (by simp) ⟨es.set j (a, v, es[j].2.2), c, ?_, ?_, ?_⟩)
  ·unfold HG
   rw [mr h1, Oo hkl _ (a, v, es[j].2.2) (by simp [mkE])]
  ·refine ⟨?_, ?_, fun e he => ?_⟩
   ·rw [ED]; show ((es.map (·.1)).set j a).Nodup
    have : (es.map (·.1)).set j a = es.map (·.1) := by
     have := lY (es.map (·.1)) j (by simpa using hkl)
     simp only [List.getElem_map, ea] at this; exact this
    rw [this]; exact h2.keys
   ·rw [ED]; show ((es.map (·.2.2)).set j es[j].2.2).Nodup
    have : (es.map (·.2.2)).set j es[j].2.2 = es.map (·.2.2) := by
     have := lY (es.map (·.2.2)) j (by simpa using hkl)
     simp only [List.getElem_map] at this; exact this
    rw [this]; exact h2.borns
   ·rcases List.mem_or_eq_of_mem_set he with he | rfl
    ·exact h2.lt e he
    ·exact (h2.lt _ (List.getElem_mem hkl) : es[j].2.2 < c)
  ·have hs : (qm (es.map prE) a).isSome = true := ue.2 ⟨prE es[j], List.mem_map_of_mem (List.getElem_mem hkl), ea⟩
   unfold FL
   rw [if_pos hs, Mb (k := j) (a := a) (by rw [List.map_map]; exact h2.keys) (by simpa using hkl) (by simp [prE, ea]) v, ED]
   rfl
theorem Fy {h : aB} {K : Nat → aB → Prop} (enc : κ → Value) (hk : ∀ r h', Fr (fun _ => False) h h' → r = h.size → xn enc h' r [] → K r h') : GV h K :=
 hk _ _ (Fr.push _ _ _) rfl ⟨[], 0, ee, ⟨by simp, by simp, fun _ h => by cases h⟩, rfl⟩
end
end Go.Proofs.YtjmfpeiidlpngaaGreatDoor
namespace Go.Proofs.YtjmfpeiidlpngaaGreatDoor
set_option linter.unusedSimpArgs false
set_option linter.unusedVariables false
set_option maxRecDepth 20000
open Go
section
variable {P : Program}
theorem EL {et : TypeId} {i : TypeInfo} {z : Value} (hi : P.info? et = some i) (hz : i.zero = some z) {h : aB} {K : Value → aB → Prop} (hk : K z h) : wpH P (zeroValue et) K h := by
 unfold zeroValue; simp only [bind]; rw [aT]; refine kO hi ?_
 rw [hz]; exact hk
end
end Go.Proofs.YtjmfpeiidlpngaaGreatDoor
namespace Go.Proofs.YtjmfpeiidlpngaaGreatDoor
set_option linter.unusedSimpArgs false
set_option linter.unusedVariables false
set_option maxRecDepth 20000
open Go
section
variable {P : Program} {kt : TypeId}
theorem Hg {v : Value} {d : TypeDesc} (hu : P.underlying kt = some d) (h1 : ∀ l t, d ≠ .array l t) (h2 : ∀ f, d ≠ .struct f) (h3 : ∀ m, d ≠ .interface m) (b : Bool) {h : aB} {K : Unit → aB → Prop} (hk : K () h) : wpH P (Instr.checkKey b (9999 + 1) kt v) K h := by
 unfold Instr.checkKey
 simp only [bind]
 rw [aT]
 refine bX hu ?_
 cases d <;> first | exact hk | exact absurd rfl (h1 _ _) | exact absurd rfl (h2 _) | exact absurd rfl (h3 _)
theorem zv {κ : Type} [DecidableEq κ] {enc : κ → Value} {d : TypeDesc} (hs : ∀ a b, Instr.sameNow d (enc a) (enc b) = some (decide (a = b))) (a : κ) : ∀ (es : List (Ent κ)) (i : Nat), Instr.findNow d (enc a) (es.map (mkE enc)) i = some (uC a es i)
 | [], _ => rfl
 | e :: es, i => by
  rw [List.map_cons]
  unfold Instr.findNow uC
  show (match Instr.sameNow d (enc a) (enc e.1) with | some true => some (some (i, e.2.1)) | some false => Instr.findNow d (enc a) (es.map (mkE enc)) (i + 1) | none => none) = _
  rw [hs]
  by_cases h : a = e.1
  ·rw [decide_eq_true h, if_pos h]
  ·rw [decide_eq_false h, if_neg h]
   exact zv hs a es (i + 1)
theorem I9 {κ : Type} [DecidableEq κ] {enc : κ → Value} {d : TypeDesc} (hu : P.underlying kt = some d) (hs : ∀ a b, Instr.sameNow d (enc a) (enc b) = some (decide (a = b))) (a : κ) (es : List (Ent κ)) {h : aB} {K : Option (Nat × Value) → aB → Prop} (hk : K (uC a es 0) h) : wpH P (Instr.findKey kt (enc a) (es.map (mkE enc))) K h := by
 unfold Instr.findKey
 simp only [bind]
 rw [aT]
 refine bX hu ?_
 rw [zv hs a es 0]
 exact hk
def B1 (k : IntKind) (n : Int) : Value := .int k n
theorem L3 {k : IntKind} (hu : P.underlying kt = some (.int k)) : Mp P kt (B1 k) :=
  ⟨fun a => by show (k == k && a == a) = true; simp, fun b a {h K} hk => Hg hu (fun _ _ h => by cases h) (fun _ h => by cases h) (fun _ h => by cases h) b hk,
   fun a es {h K} hk => I9 hu (fun a b => by show (if k = k then some (a == b) else none) = _; rw [if_pos rfl]; congr 1) a es hk⟩
end
section
variable {κ : Type} [DecidableEq κ]
theorem Jw {m : List (κ × Value)} {a : κ} (h : qm m a = none) : ∀ e ∈ m, e.1 ≠ a := fun e he hk => by
 have : (qm m a).isSome = true := ue.2 ⟨e, he, hk⟩
 rw [h] at this; cases this
theorem JA {m : List (κ × Value)} {a : κ} {v : Value} (h : qm m a = some v) : (a, v) ∈ m := by
 unfold qm at h
 rw [Option.map_eq_some_iff] at h
 obtain ⟨e, h1, h2⟩ := h
 have h3 := List.mem_of_find?_eq_some h1
 have h4 := List.find?_some h1
 rw [decide_eq_true_eq] at h4
 rw [← h4, ← h2]; exact h3
theorem Mk {m : List (κ × Value)} {a : κ} (h : ∀ e ∈ m, e.1 ≠ a) (v : Value) : FL m a v = m ++ [(a, v)] := by
 have hs : ¬ (qm m a).isSome = true := fun hh => by
  obtain ⟨e, he, ek⟩ := ue.1 hh
  exact h e he ek
 unfold FL
 rw [if_neg hs]
end
end Go.Proofs.YtjmfpeiidlpngaaGreatDoor
namespace Go.Proofs.YtjmfpeiidlpngaaGreatDoor.Fp
set_option linter.unusedSimpArgs false
set_option linter.unusedVariables false
set_option maxRecDepth 20000
open Go
def xj (c : UInt8) : Bool := (decide (97 ≤ c.toNat) && decide (c.toNat ≤ 122)) || (decide (65 ≤ c.toNat) && decide (c.toNat ≤ 90)) || (decide (48 ≤ c.toNat) && decide (c.toNat ≤ 57)) || c.toNat == 32
theorem KZ [Gh] (c : UInt8) {h : aB} {Q : Value → aB → Prop} (hk : Q (.bool (xj c)) h) : aD Tryz.prog lw #[.int .u8 c.toNat] h Q := by
 refine wt _ ?_
 simp only [qp]
 unfold xj at hk
 have e32 : ((c.toNat : Int) == 32) = (c.toNat == 32) := by rw [Bool.eq_iff_iff, beq_iff_eq, beq_iff_eq]; omega
 have d1 : decide ((c.toNat : Int) ≥ 97) = decide (97 ≤ c.toNat) := by rw [decide_eq_decide]; omega
 have d2 : decide ((c.toNat : Int) ≤ 122) = decide (c.toNat ≤ 122) := by rw [decide_eq_decide]; omega
 have d3 : decide ((c.toNat : Int) ≥ 65) = decide (65 ≤ c.toNat) := by rw [decide_eq_decide]; omega
 have d4 : decide ((c.toNat : Int) ≤ 90) = decide (c.toNat ≤ 90) := by rw [decide_eq_decide]; omega
 have d5 : decide ((c.toNat : Int) ≥ 48) = decide (48 ≤ c.toNat) := by rw [decide_eq_decide]; omega
 have d6 : decide ((c.toNat : Int) ≤ 57) = decide (c.toNat ≤ 57) := by rw [decide_eq_decide]; omega
 rw [d1, d2, d3, d4, d5, d6, e32]
 revert hk
 cases decide (97 ≤ c.toNat) <;> cases decide (c.toNat ≤ 122) <;> cases decide (65 ≤ c.toNat) <;> cases decide (c.toNat ≤ 90) <;> cases decide (48 ≤ c.toNat) <;> cases decide (c.toNat ≤ 57) <;> intro hk <;> simpa using hk
theorem Jp [Gh] (c : UInt8) {h : aB} {Q : Value → aB → Prop} (hk : Q (.bool (xj c)) h) : aD Tryz.prog qP #[.int .u8 c.toNat] h Q := by
 refine CD _ ?_
 simp only [wc]
 unfold xj at hk
 have e32 : ((c.toNat : Int) == 32) = (c.toNat == 32) := by rw [Bool.eq_iff_iff, beq_iff_eq, beq_iff_eq]; omega
 have d1 : decide ((c.toNat : Int) ≥ 97) = decide (97 ≤ c.toNat) := by rw [decide_eq_decide]; omega
 have d2 : decide ((c.toNat : Int) ≤ 122) = decide (c.toNat ≤ 122) := by rw [decide_eq_decide]; omega
 have d3 : decide ((c.toNat : Int) ≥ 65) = decide (65 ≤ c.toNat) := by rw [decide_eq_decide]; omega
 have d4 : decide ((c.toNat : Int) ≤ 90) = decide (c.toNat ≤ 90) := by rw [decide_eq_decide]; omega
 have d5 : decide ((c.toNat : Int) ≥ 48) = decide (48 ≤ c.toNat) := by rw [decide_eq_decide]; omega
 have d6 : decide ((c.toNat : Int) ≤ 57) = decide (c.toNat ≤ 57) := by rw [decide_eq_decide]; omega
 rw [d1, d2, d3, d4, d5, d6, e32]
 revert hk
 cases decide (97 ≤ c.toNat) <;> cases decide (c.toNat ≤ 122) <;> cases decide (65 ≤ c.toNat) <;> cases decide (c.toNat ≤ 90) <;> cases decide (48 ≤ c.toNat) <;> cases decide (c.toNat ≤ 57) <;> intro hk <;> simpa using hk
def nE (seen : List UInt8) : Array Value := ((List.range 256).map fun i => Value.bool (seen.contains (UInt8.ofNat i))).toArray
theorem Cr (seen : List UInt8) : (nE seen).size = 256 := by simp [nE]
theorem Jb (seen : List UInt8) (c : UInt8) : (nE seen)[c.toNat]? = some (.bool (seen.contains c)) := by
 have hc := c.toNat_lt
 unfold nE
 rw [List.getElem?_toArray, List.getElem?_map, List.getElem?_range (by omega)]
 simp
theorem IY (seen : List UInt8) (c : UInt8) : (nE seen).setIfInBounds c.toNat (.bool true) = nE (c :: seen) := by
 have hc := c.toNat_lt
 apply Array.ext_getElem?
 intro i
 rw [Array.getElem?_setIfInBounds]
 unfold nE
 rw [List.getElem?_toArray, List.getElem?_map, List.getElem?_toArray, List.getElem?_map]
 by_cases hi : i < 256
 ·rw [List.getElem?_range hi]
  by_cases e : c.toNat = i
  ·subst e; simp [hc]
  ·rw [if_neg e]
   have : (UInt8.ofNat i == c) = false := by
    rw [beq_eq_false_iff_ne]
    intro h; apply e; rw [← h]; simp; omega
   simp only [Option.map_some, List.contains_cons, this, Bool.false_or]
 ·rw [List.getElem?_eq_none (by simp; omega), if_neg (by omega)]; rfl
def lE : List UInt8 → List UInt8 → Int → Int
 | [], _, n => n
 | c :: r, seen, n => lE r (c :: seen) (n + (if seen.contains c then 0 else 16) - (if xj c then 8 else 0))
def qy (s : List UInt8) : Int := if s = [] then 0 else if 1 > lE s [] s.length then 1 else lE s [] s.length
theorem H6 {h : aB} {a : Addr} {T : TypeId} {seen : List UInt8} (o : Own h a (nE seen).toList T) (c : UInt8) : hcell h (a.add ((c.toNat : Int).toNat * 1)) = some (.bool (seen.contains c)) := by
 rw [Int.toNat_natCast, Nat.mul_one]
 refine o.cells.at ?_
 have := Jb seen c
 simpa using this
theorem DV : (nE []).toList = List.replicate 256 (Value.bool false) := by
 unfold nE
 simp only [List.contains_nil]
 rw [List.map_const']; simp
theorem FS (seen : List UInt8) (c : UInt8) : (nE seen).toList.set c.toNat (.bool true) = (nE (c :: seen)).toList := by
 rw [← IY]; simp
theorem yO (s seen : List UInt8) (n : Int) (k : Nat) (hk : k < s.length) : lE (s.drop k) seen n = lE (s.drop (k + 1)) (s.getD k 0 :: seen) (n + (if seen.contains (s.getD k 0) then 0 else 16) - (if xj (s.getD k 0) then 8 else 0)) := by
 rw [List.drop_eq_getElem_cons hk, lE]
 rw [List.getD_eq_getElem?_getD, List.getElem?_eq_getElem hk]; rfl
theorem FX {seen : List UInt8} {c : UInt8} (h : seen.contains c = true) : nE (c :: seen) = nE seen := by
 unfold nE
 congr 1
 apply List.map_congr_left
 intro i _
 rw [List.contains_cons]
 by_cases e : UInt8.ofNat i = c
 ·rw [e, h]; simp
 ·have : (UInt8.ofNat i == c) = false := by simpa using e
  rw [this, Bool.false_or]
theorem HM [Gh] (s : List UInt8) (hs : s.length < 2 ^ 40) {h : aB} {Q : Value → aB → Prop} (hk : ∀ h', Fr (fun _ => False) h h' → Q (.int .i64 (qy s)) h') :
  aD Tryz.prog jA #[.string (bs s)] h Q := by
 refine xD _ ?_
 unfold re
 refine Bj (fun e => ?_) (fun e => ?_)
 ·subst e; exact hk _ (Fr.refl _ _)
 refine aX fun a h1 f1 ha o1 => ?_
 have o1 : Own h1 a (List.replicate 256 (Value.bool false)) rF := Oq (by as_aux_lemma => kernel_rfl) o1
 rw [aY]
 rw [← DV] at o1
 refine aH.mk (fun st h' => ∃ (k : Nat) (seen : List UInt8), st.2 = k ∧ k ≤ s.length ∧ Fr (fun _ => False) h h' ∧ Own h' a (nE seen).toList rF ∧ lE (s.drop k) seen st.1 = lE s [] s.length ∧ st.1 ≤ s.length + 16 * k ∧ (s.length : Int) - 8 * k ≤ st.1) (fun st _ => s.length - st.2.toNat)
  ⟨0, [], rfl, by omega, f1, o1, rfl, by simp, by simp⟩ ?_
 rintro ⟨n, i⟩ h2 ⟨k, seen, hi, hkl, f2, o2, hg, hn1, hn2⟩
 simp only at hi hg hn1 hn2
 subst hi
 unfold lT
 refine ifD (fun hlt => ?_) (fun hge => ?_)
 ·have hks : k < s.length := by omega
  have hc := (s.getD k 0).toNat_lt
  refine xa _ _ _ (by omega) (by omega) ?_
  rw [Int.toNat_natCast]
  refine ⟨by omega, by omega, aG (H6 o2 _) ?_⟩
  have rest : ∀ (n' : Int) (h3 : aB), Fr (fun _ => False) h h3 → Own h3 a (nE (s.getD k 0 :: seen)).toList rF → n' = n + (if seen.contains (s.getD k 0) then 0 else 16) →
    hY (bs s) a n' k s.length k Q (fun s' h' => (∃ (k : Nat) (seen : List UInt8), s'.2 = k ∧ k ≤ s.length ∧ Fr (fun _ => False) h h' ∧ Own h' a (nE seen).toList rF ∧ lE (s.drop k) seen s'.1 = lE s [] s.length ∧ s'.1 ≤ s.length + 16 * k ∧ (s.length : Int) - 8 * k ≤ s'.1) ∧ s.length - s'.2.toNat < s.length - ((k : Int)).toNat) h3 := by
   intro n' h3 f3 o3 en
   unfold hY
   refine xa _ _ _ (by omega) (by omega) ?_
   rw [Int.toNat_natCast]
   refine KZ _ ⟨_, rfl, ?_⟩
   have hb : (if seen.contains (s.getD k 0) then (0 : Int) else 16) ≤ 16 ∧ 0 ≤ (if seen.contains (s.getD k 0) then (0 : Int) else 16) := by split <;> omega
   rw [yO s seen n k hks, ← en] at hg
   rw [wr (x := (k : Int) + 1) (by omega) (by omega)]
   refine ifB (fun hcm => ?_) (fun hcm => ?_)
   ·rw [wr (by omega) (by omega)]
    rw [hcm, if_pos rfl] at hg
    exact ⟨⟨k + 1, _, by simp, by omega, f3, o3, hg, by simp only; omega, by simp only; omega⟩, by simp only; omega⟩
   ·rw [hcm, if_neg (by simp), Int.sub_zero] at hg
    exact ⟨⟨k + 1, _, by simp, by omega, f3, o3, hg, by simp only; omega, by simp only; omega⟩, by simp only; omega⟩
  refine ifN (fun hs0 => ?_) (fun hs1 => ?_)
  ·refine xa _ _ _ (by omega) (by omega) ?_
   rw [Int.toNat_natCast]
   refine ⟨by omega, by omega, ?_⟩
   rw [Int.toNat_natCast, Nat.mul_one]
   refine cI o2 _ (by rw [Array.length_toList, Cr]; omega) rfl fun h3 f3 _ o3 => ?_
   rw [FS] at o3
   rw [wr (by omega) (by omega)]
   have hab := ha
   refine rest _ h3 (f2.tr f3 (fun x hx e => ?_)) o3 (by rw [hs0]; simp)
   subst e; rw [ha] at hx; exact absurd hx (Nat.lt_irrefl _)
  ·refine rest _ h2 f2 (by rw [FX hs1]; exact o2) (by rw [hs1]; simp)
 ·have : k = s.length := by omega
  subst this
  unfold mf
  rw [List.drop_length] at hg
  have : qy s = (if (1 : Int) > n then (1 : Int) else n) := by
   unfold qy
   rw [if_neg e, ← hg]; rfl
  rw [← this]
  exact hk _ f2
end Go.Proofs.YtjmfpeiidlpngaaGreatDoor.Fp
namespace Go.Proofs.YtjmfpeiidlpngaaGreatDoor.Fp
set_option linter.unusedSimpArgs false
set_option linter.unusedVariables false
set_option maxRecDepth 20000
open Go
theorem EG : ii Tryz.prog rx AE Tryz.t4 (.bool false) := ⟨Tryz.underlying102, by kernel_rfl, by kernel_rfl, by kernel_rfl, by decide⟩
theorem Ab [Gh] (s : List UInt8) (hs : s.length < 2 ^ 40) {h : aB} {Q : Value → aB → Prop} (hk : ∀ h', Fr (fun _ => False) h h' → Q (.int .i64 (qy s)) h') :
  aD Tryz.prog jQ #[.string (bs s)] h Q := by
 refine Dk _ ?_
 unfold xU
 refine Bj (fun e => ?_) (fun e => ?_)
 ·subst e; exact hk _ (Fr.refl _ _)
 refine yT EG 256 (by decide) (by decide) fun a h1 f1 ha o1 => ⟨_, _, _, rfl, ?_⟩
 have o1 : Own h1 a (List.replicate 256 (Value.bool false)) AE := by
  have e1 : (List.replicate 256 (Value.bool false).cells.toList).flatten = List.replicate 256 (Value.bool false) := by
   show (List.replicate 256 [Value.bool false]).flatten = _
   simp
  rw [e1] at o1; exact o1
 rw [aY]
 rw [← DV] at o1
 refine aH.mk (fun st h' => ∃ (k : Nat) (seen : List UInt8), st.2 = k ∧ k ≤ s.length ∧ Fr (fun _ => False) h h' ∧ Own h' a (nE seen).toList AE ∧ lE (s.drop k) seen st.1 = lE s [] s.length ∧ st.1 ≤ s.length + 16 * k ∧ (s.length : Int) - 8 * k ≤ st.1) (fun st _ => s.length - st.2.toNat)
  ⟨0, [], rfl, by omega, f1, o1, rfl, by simp, by simp⟩ ?_
 rintro ⟨n, i⟩ h2 ⟨k, seen, hi, hkl, f2, o2, hg, hn1, hn2⟩
 simp only at hi hg hn1 hn2
 subst hi
 unfold rW
 refine ifD (fun hlt => ?_) (fun hge => ?_)
 ·rw [aY] at hlt
  have hks : k < s.length := by omega
  have hc := (s.getD k 0).toNat_lt
  refine xa _ _ _ (by omega) (by omega) ?_
  rw [Int.toNat_natCast]
  refine ⟨by omega, by omega, aG (H6 o2 _) ?_⟩
  have rest : ∀ (n' : Int), n' = n + (if seen.contains (s.getD k 0) then 0 else 16) →
    mb (bs s) n' (some a) 256 256 k Q (fun s' h' => (∃ (k : Nat) (seen : List UInt8), s'.2 = k ∧ k ≤ s.length ∧ Fr (fun _ => False) h h' ∧ Own h' a (nE seen).toList AE ∧ lE (s.drop k) seen s'.1 = lE s [] s.length ∧ s'.1 ≤ s.length + 16 * k ∧ (s.length : Int) - 8 * k ≤ s'.1) ∧ s.length - s'.2.toNat < s.length - ((k : Int)).toNat) h2 := by
   intro n' en
   unfold mb
   refine xa _ _ _ (by omega) (by omega) ?_
   rw [Int.toNat_natCast]
   refine ⟨by omega, by omega, aS ?_⟩
   rw [Int.toNat_natCast, Nat.mul_one]
   refine cI o2 _ (by rw [Array.length_toList, Cr]; omega) rfl fun h3 f3' _ o3 => ?_
   rw [FS] at o3
   have f3 : Fr (fun _ => False) h h3 := f2.tr f3' (fun x hx e => by subst e; rw [ha] at hx; exact absurd hx (Nat.lt_irrefl _))
   refine xa _ _ _ (by omega) (by omega) ?_
   rw [Int.toNat_natCast]
   refine Jp _ ⟨_, rfl, ?_⟩
   have hb : (if seen.contains (s.getD k 0) then (0 : Int) else 16) ≤ 16 ∧ 0 ≤ (if seen.contains (s.getD k 0) then (0 : Int) else 16) := by split <;> omega
   rw [yO s seen n k hks, ← en] at hg
   rw [wr (x := (k : Int) + 1) (by omega) (by omega)]
   refine ifB (fun hcm => ?_) (fun hcm => ?_)
   ·rw [wr (by omega) (by omega)]
    rw [hcm, if_pos rfl] at hg
    exact ⟨⟨k + 1, _, by simp, by omega, f3, o3, hg, by simp only; omega, by simp only; omega⟩, by simp only; omega⟩
   ·rw [hcm, if_neg (by simp), Int.sub_zero] at hg
    exact ⟨⟨k + 1, _, by simp, by omega, f3, o3, hg, by simp only; omega, by simp only; omega⟩, by simp only; omega⟩
  refine ifN (fun hs0 => ?_) (fun hs1 => ?_)
  ·rw [wr (by omega) (by omega)]
   exact rest _ (by rw [hs0]; simp)
  ·exact rest _ (by rw [hs1]; simp)
 ·rw [aY] at hge
  have : k = s.length := by omega
  subst this
  unfold rC
  rw [List.drop_length] at hg
  have : qy s = (if (1 : Int) > n then (1 : Int) else n) := by
   unfold qy
   rw [if_neg e, ← hg]; rfl
  rw [← this]
  exact hk _ f2
def fR (c : UInt8) : UInt8 := if 65 ≤ c.toNat ∧ c.toNat ≤ 90 then c + 32 else c
theorem Ic (c : UInt8) (h1 : 65 ≤ c.toNat) (h2 : c.toNat ≤ 90) : ((fR c).toNat : Int) = c.toNat + 32 := by
 unfold fR; rw [if_pos ⟨h1, h2⟩, UInt8.toNat_add]
 have : (32 : UInt8).toNat = 32 := rfl
 rw [this]; omega
def nV (s : List UInt8) (k : Nat) : List UInt8 := (s.take k).map fR ++ s.drop k
theorem ub (s : List UInt8) (k : Nat) : (nV s k).length = s.length := by unfold nV; simp; omega
theorem GM (s : List UInt8) : nV s 0 = s := by simp [nV]
theorem DB (s : List UInt8) : nV s s.length = s.map fR := by simp [nV]
theorem Al (s : List UInt8) (k : Nat) (hk : k < s.length) : (nV s k)[k]? = some (s.getD k 0) := by
 unfold nV
 rw [List.getElem?_append_right (by simp; omega)]
 simp [Nat.min_eq_left (Nat.le_of_lt hk), hk]
theorem yk (s : List UInt8) (k : Nat) (hk : k < s.length) : nV s (k + 1) = (nV s k).set k (fR (s.getD k 0)) := by
 apply List.ext_getElem?
 intro i
 unfold nV
 rw [List.getElem?_set]
 by_cases h1 : i < k
 ·rw [List.getElem?_append_left (by simp; omega), if_neg (by omega), List.getElem?_append_left (by simp; omega)]
  simp [h1, Nat.lt_succ_of_lt h1]
 ·by_cases h2 : i = k
  ·subst h2
   rw [List.getElem?_append_left (by simp; omega), if_pos rfl, if_pos (by simp; omega)]
   simp [hk]
  ·rw [List.getElem?_append_right (by simp; omega), if_neg (by omega), List.getElem?_append_right (by simp; omega)]
   simp only [List.length_map, List.length_take, List.getElem?_drop]
   congr 1; omega
def CU (h : aB) (a : Option Addr) (c : Nat) (l : List UInt8) : Prop := tK h a c 1 (eN l)
theorem CU.at {h : aB} {a : Option Addr} {c : Nat} {l : List UInt8} (o : CU h a c l) {k : Nat} (hk : k < l.length) : ∃ ad, a = some ad ∧ hcell h (ad.add k) = some (.int .u8 (l.getD k 0).toNat) := by
 cases a with
 | none => have := o.1; simp [eN] at this; subst this; simp at hk
 | some ad =>
  refine ⟨ad, rfl, ?_⟩
  refine o.cells.at ?_
  simp [eN, zt, hk]
theorem CU.set {h : aB} {ad : Addr} {c : Nat} {l : List UInt8} (o : CU h (some ad) c l) {k : Nat} (hk : k < l.length) (b : UInt8) {K : aB → Prop}
  (hK : ∀ h', Fr (InA (some ad)) h h' → CU h' (some ad) c (l.set k b) → K h') : st1 h (ad.add k) (.int .u8 b.toNat) K := by
 obtain ⟨h1, h2, ds, t, fr, hfr, hg, hc1, hc2, hc3⟩ := o
 have e : ad.add k = ⟨ad.block, k, none⟩ := by
  obtain ⟨b, o, s⟩ := ad; simp only at h1 h2; subst h1 h2; rw [gX, Nat.zero_add]
 rw [jL] at hc2
 rw [e]
 refine ⟨rfl, by rw [kX hg, Array.getElem?_eq_getElem (by omega)]; rfl, r3 hg hfr (by omega), ?_⟩
 rw [tX hg]
 refine hK _ (Fr.set _ _ ⟨ad, rfl, rfl⟩) ⟨h1, h2, _, t, fr, by simpa using hfr, mr hg, by simpa using hc1, by simp [jL]; omega, ?_⟩
 intro i hi
 rw [jL, List.length_set] at hi
 rw [Array.getElem?_setIfInBounds]
 by_cases hik : k = i
 ·subst hik
  rw [if_pos rfl, if_pos (by omega)]
  simp [eN, zt, hi]
 ·rw [if_neg hik, hc3 i (by rw [jL]; exact hi)]
  simp [eN, zt, hik]
theorem HJ {s : List UInt8} {h : aB} {a : Option Addr} {c : Nat} (o : CU h a c s) : CU h a c (nV s 0) := by rw [GM]; exact o
theorem Fe (s : List UInt8) (k : Nat) (hk : k < s.length) (hn : ¬ (65 ≤ (s.getD k 0).toNat ∧ (s.getD k 0).toNat ≤ 90)) : nV s (k + 1) = nV s k := by
 rw [yk s k hk]
 have : fR (s.getD k 0) = s.getD k 0 := if_neg hn
 rw [this]
 apply List.ext_getElem?
 intro i
 rw [List.getElem?_set]
 split
 ·rename_i e; subst e
  rw [Al s k hk, if_pos (by rw [ub]; exact hk)]
 ·rfl
theorem BC [Gh] (s : List UInt8) (hs : s.length < 2 ^ 40) {h : aB} {Q : Value → aB → Prop} (hk : ∀ h', Fr (fun _ => False) h h' → Q (.string (bs (s.map fR))) h') :
  aD Tryz.prog lP #[.string (bs s)] h Q := by
 refine xp _ ?_
 unfold q6
 refine Aq Tryz.underlying9 Tryz.underlying98 Tryz.underlying5 s fun a c h1 f1 ha o1 hc => ⟨_, _, _, rfl, ?_⟩
 refine aH.mk (fun i h' => ∃ k : Nat, i = k ∧ k ≤ s.length ∧ Fr (fun _ => False) h h' ∧ CU h' a c (nV s k)) (fun i _ => s.length - i.toNat) ⟨0, rfl, by omega, f1, HJ o1⟩ ?_
 rintro i h2 ⟨k, rfl, hkl, f2, o2⟩
 unfold mg
 refine ifD (fun hlt => ?_) (fun hge => ?_)
 ·have hks : k < s.length := by omega
  obtain ⟨ad, rfl, hcell⟩ := o2.at (k := k) (by rw [ub]; exact hks)
  have hgd : (nV s k).getD k 0 = s.getD k 0 := by rw [List.getD_eq_getElem?_getD, Al s k hks]; rfl
  rw [hgd] at hcell
  have hc8 := (s.getD k 0).toNat_lt
  refine bP k rfl hks (aS ?_)
  rw [Int.toNat_natCast, Nat.mul_one]
  refine aA hcell ?_
  have skip : ¬ (65 ≤ (s.getD k 0).toNat ∧ (s.getD k 0).toNat ≤ 90) → (∃ k' : Nat, IntKind.wrap .i64 ((k : Int) + 1) = k' ∧ k' ≤ s.length ∧ Fr (fun _ => False) h h2 ∧ CU h2 (some ad) c (nV s k')) ∧ s.length - (IntKind.wrap .i64 ((k : Int) + 1)).toNat < s.length - ((k : Int)).toNat := fun hn => by
   rw [wr (by omega) (by omega)]
   exact ⟨⟨k + 1, by omega, by omega, f2, by rw [Fe s k hks hn]; exact o2⟩, by omega⟩
  refine ifD (fun h65 => ?_) (fun h65 => skip (by omega))
  refine ifD (fun h90 => ?_) (fun h90 => skip (by omega))
  refine bP k rfl hks (aS ?_)
  rw [wr8 (by omega) (by omega), ← Ic _ (by omega) (by omega)]
  refine o2.set (by rw [ub]; exact hks) _ fun h3 f3 o3 => ?_
  rw [← yk s k hks] at o3
  rw [wr (by omega) (by omega)]
  exact ⟨⟨k + 1, by omega, by omega, f2.tr f3 (fun x hx hi => absurd (ha x hi) (by omega)), o3⟩, by omega⟩
 ·have : k = s.length := by omega
  subst this
  rw [DB] at o2
  refine rA Tryz.underlying98 Tryz.underlying9 Tryz.underlying5 (l := s.map fR) (by simp) (fun ad hd => by subst hd; exact o2.cells) (fun hd => by subst hd; have := o2.1; simpa [eN] using this) ⟨_, rfl, ?_⟩
  exact hk _ f2
theorem K4 [Gh] (s : List UInt8) (hs : s.length < 2 ^ 40) {h : aB} {Q : Value → aB → Prop} (hk : ∀ h', Fr (fun _ => False) h h' → Q (.string (bs (s.map fR))) h') :
  aD Tryz.prog rP #[.string (bs s)] h Q := by
 refine Da _ ?_
 unfold xZ
 refine Aq Tryz.underlying9 Tryz.underlying98 Tryz.underlying5 s fun a c h1 f1 ha o1 hc => ⟨_, _, _, rfl, ?_⟩
 refine aH.mk (fun i h' => ∃ k : Nat, i = k ∧ k ≤ s.length ∧ Fr (fun _ => False) h h' ∧ CU h' a c (nV s k)) (fun i _ => s.length - i.toNat) ⟨0, rfl, by omega, f1, HJ o1⟩ ?_
 rintro i h2 ⟨k, rfl, hkl, f2, o2⟩
 unfold rN
 refine ifD (fun hlt => ?_) (fun hge => ?_)
 ·have hks : k < s.length := by omega
  obtain ⟨ad, rfl, hcell⟩ := o2.at (k := k) (by rw [ub]; exact hks)
  have hgd : (nV s k).getD k 0 = s.getD k 0 := by rw [List.getD_eq_getElem?_getD, Al s k hks]; rfl
  rw [hgd] at hcell
  have hc8 := (s.getD k 0).toNat_lt
  refine bP k rfl hks (aS ?_)
  rw [Int.toNat_natCast, Nat.mul_one]
  refine aA hcell ?_
  have skip : ¬ (65 ≤ (s.getD k 0).toNat ∧ (s.getD k 0).toNat ≤ 90) → (∃ k' : Nat, IntKind.wrap .i64 ((k : Int) + 1) = k' ∧ k' ≤ s.length ∧ Fr (fun _ => False) h h2 ∧ CU h2 (some ad) c (nV s k')) ∧ s.length - (IntKind.wrap .i64 ((k : Int) + 1)).toNat < s.length - ((k : Int)).toNat := fun hn => by
   rw [wr (by omega) (by omega)]
   exact ⟨⟨k + 1, by omega, by omega, f2, by rw [Fe s k hks hn]; exact o2⟩, by omega⟩
  refine ifD (fun h65 => ?_) (fun h65 => skip (by omega))
  refine bP k rfl hks (aS (aA hcell ?_))
  refine ifD (fun h90 => ?_) (fun h90 => skip (by omega))
  refine bP k rfl hks (aS (aA hcell ?_))
  refine bP k rfl hks (aS ?_)
  rw [wr8 (by omega) (by omega), ← Ic _ (by omega) (by omega)]
  refine o2.set (by rw [ub]; exact hks) _ fun h3 f3 o3 => ?_
  rw [← yk s k hks] at o3
  rw [wr (by omega) (by omega)]
  exact ⟨⟨k + 1, by omega, by omega, f2.tr f3 (fun x hx hi => absurd (ha x hi) (by omega)), o3⟩, by omega⟩
 ·have : k = s.length := by omega
  subst this
  rw [DB] at o2
  refine rA Tryz.underlying98 Tryz.underlying9 Tryz.underlying5 (l := s.map fR) (by simp) (fun ad hd => by subst hd; exact o2.cells) (fun hd => by subst hd; have := o2.1; simpa [eN] using this) ⟨_, rfl, ?_⟩
  exact hk _ f2
end Go.Proofs.YtjmfpeiidlpngaaGreatDoor.Fp
namespace Go.Proofs.YtjmfpeiidlpngaaGreatDoor.Fp
set_option linter.unusedSimpArgs false
set_option linter.unusedVariables false
set_option maxRecDepth 20000
open Go
abbrev Cn := aI
def Bs (c : Cn) : Bool := c.Not || c.Pattern.isEmpty
def sM (c b : Cn) : Bool := decide (qy c.Pattern > qy b.Pattern) || (qy c.Pattern == qy b.Pattern && decide (c.Pattern.length > b.Pattern.length))
def noC : Cn := ⟨[], false, false, false, 0, 0, false⟩
def dR (all : List Cn) : List Cn → Nat → Int → Int
 | [], _, best => best
 | c :: r, k, best =>
  if Bs c then dR all r (k + 1) best
  else if c.Fast then k
  else if best < 0 then dR all r (k + 1) k
  else if sM c (all.getD best.toNat noC) then dR all r (k + 1) k
  else dR all r (k + 1) best
def dQ (all : List Cn) : Int := dR all all 0 (-1)
theorem xN (all : List Cn) (k : Nat) (hk : k < all.length) (best : Int) : dR all (all.drop k) k best =
  if Bs all[k] then dR all (all.drop (k + 1)) (k + 1) best
  else if all[k].Fast then k
  else if best < 0 then dR all (all.drop (k + 1)) (k + 1) k
  else if sM all[k] (all.getD best.toNat noC) then dR all (all.drop (k + 1)) (k + 1) k
  else dR all (all.drop (k + 1)) (k + 1) best := by
 rw [List.drop_eq_getElem_cons hk, dR]
structure te (cs : List Cn) : Prop where
 len : cs.length ≤ 70
 pat : ∀ c ∈ cs, c.Pattern.length ≤ 200
theorem JF [Gh] (r : aJ) {h : aB} (ok : r.ok h) (sh : te r.Contents.xs) {Q : Value → aB → Prop} (hk : ∀ h', Fr (fun _ => False) h h' → Q (.int .i64 (dQ r.Contents.xs)) h') :
  aD Tryz.prog lk #[.agg r.vals.toArray] h Q := by
 apply wn
 unfold qq
 refine aX fun a h1 f1 ha o1 => ?_
 refine aC (o1.cells.at rfl) ?_
 have oc : bH 7 aI.vals aI.ok h1 r.Contents := bH.fr0 aI.ok_fr f1 ok.k14
 generalize hcs : r.Contents = C at *
 clear ok
 have hlen := sh.len
 refine aH.mk (fun st h' => ∃ k : Nat, st.2 = k ∧ k ≤ C.xs.length ∧ Fr (fun _ => False) h1 h' ∧ dR C.xs (C.xs.drop k) k st.1 = dQ C.xs ∧ (st.1 = -1 ∨ ∃ b : Nat, st.1 = b ∧ b < C.xs.length)) (fun st _ => C.xs.length - st.2.toNat)
  ⟨0, rfl, by omega, Fr.refl _ _, rfl, .inl rfl⟩ ?_
 rintro ⟨best, i⟩ h2 ⟨k, hi, hkl, f2, hg, hb⟩
 simp only at hi hg hb
 subst hi
 unfold lu
 refine ifD (fun hlt => ?_) (fun hge => ?_)
 ·have hks : k < C.xs.length := by omega
  have oc2 := bH.fr0 aI.ok_fr f2 oc
  rw [xN _ k hks] at hg
  have hpat := sh.pat _ (List.getElem_mem hks)
  refine bY oc2 k rfl hks fun ad cc okc => ?_
  rw [Int.toNat_natCast]
  refine (aV (cc.at0 rfl) (aG (cc.at rfl) (aG (cc.at rfl) (aG (cc.at rfl) (aA (cc.at rfl) (aA (cc.at rfl) (aG (cc.at rfl) ?_)))))))
  refine nU rfl rfl fun t5 h3 f3 ht5 o5 => ?_
  have f13 := f2.trans f3
  have next : ∀ (b' : Int) (h' : aB), Fr (fun _ => False) h1 h' → dR C.xs (C.xs.drop (k + 1)) (k + 1) b' = dQ C.xs → (b' = -1 ∨ ∃ b : Nat, b' = b ∧ b < C.xs.length) →
    (∃ k' : Nat, (b', IntKind.wrap .i64 ((k : Int) + 1)).2 = k' ∧ k' ≤ C.xs.length ∧ Fr (fun _ => False) h1 h' ∧ dR C.xs (C.xs.drop k') k' (b', IntKind.wrap .i64 ((k : Int) + 1)).1 = dQ C.xs ∧ ((b', IntKind.wrap .i64 ((k : Int) + 1)).1 = -1 ∨ ∃ b : Nat, (b', IntKind.wrap .i64 ((k : Int) + 1)).1 = b ∧ b < C.xs.length)) ∧ C.xs.length - ((b', IntKind.wrap .i64 ((k : Int) + 1)).2).toNat < C.xs.length - k := by
   intro b' h' f' hg' hb'
   rw [wr (by omega) (by omega)]
   exact ⟨⟨k + 1, by simp, by omega, f', hg', hb'⟩, by simp only; omega⟩
  refine aG (o5.cells.at rfl) ?_
  refine ifB (fun hn => ?_) (fun hn => ?_)
  ·rw [if_pos (by simp [Bs, hn])] at hg
   exact next _ _ f13 hg hb
  refine aV (o5.cells.at0 rfl) ?_
  refine Bj (fun he => ?_) (fun he => ?_)
  ·rw [if_pos (by simp [Bs, he])] at hg
   exact next _ _ f13 hg hb
  rw [if_neg (by simp [Bs, hn, he])] at hg
  refine aG (o5.cells.at rfl) ?_
  refine ifB (fun hf => ?_) (fun hf => ?_)
  ·rw [if_pos hf] at hg
   have := hk _ (f1.trans f13)
   rw [← hg] at this; exact this
  rw [if_neg (by simp [hf])] at hg
  refine ifD (fun hneg => ?_) (fun hneg => ?_)
  ·rw [if_pos hneg] at hg
   exact next _ _ f13 hg (.inr ⟨k, rfl, hks⟩)
  rw [if_neg hneg] at hg
  obtain ⟨b, rfl, hbl⟩ : ∃ b : Nat, best = b ∧ b < C.xs.length := by
   rcases hb with hb | hb
   ·omega
   ·exact hb
  have o1' : Own h3 a _ _ := Own.fr0 f13 o1
  refine aC (o1'.cells.at rfl) ?_
  have oc3 := bH.fr0 aI.ok_fr f13 oc
  have hbpat := sh.pat _ (List.getElem_mem hbl)
  have eC : r.Contents.p = C.p ∧ r.Contents.xs.length = C.xs.length := by rw [hcs]; exact ⟨rfl, rfl⟩
  refine bY oc3 b rfl hbl fun ad2 cb okb => ?_
  rw [Int.toNat_natCast]
  refine (aV (cb.at0 rfl) (aG (cb.at rfl) (aG (cb.at rfl) (aG (cb.at rfl) (aA (cb.at rfl) (aA (cb.at rfl) (aG (cb.at rfl) ?_)))))))
  refine nU rfl rfl fun t6 h5 f5 ht6 o6 => ?_
  have o5' := Own.fr0 f5 o5
  refine aV (o5'.cells.at0 rfl) (aV (o6.cells.at0 rfl) ?_)
  refine HM _ (by omega) fun h6 f6 => ⟨_, rfl, ?_⟩
  have o6' := Own.fr0 f6 o6
  refine ⟨aV (o6'.cells.at0 rfl) rfl, ?_⟩
  refine HM _ (by omega) fun h7 f7 => ⟨_, rfl, ?_⟩
  have f17 := ((f13.trans f5).trans f6).trans f7
  have hgd : C.xs.getD ((b : Int)).toNat noC = C.xs[b] := by
   rw [Int.toNat_natCast, List.getD_eq_getElem?_getD, List.getElem?_eq_getElem hbl]; rfl
  rw [hgd] at hg
  have win : sM C.xs[k] C.xs[b] = true → dR C.xs (C.xs.drop (k + 1)) (k + 1) k = dQ C.xs := fun hw => by rw [if_pos hw] at hg; exact hg
  have lose : sM C.xs[k] C.xs[b] = false → dR C.xs (C.xs.drop (k + 1)) (k + 1) b = dQ C.xs := fun hw => by rw [if_neg (by simp [hw])] at hg; exact hg
  refine ifD (fun hgt => ?_) (fun hgt => ?_)
  ·exact next _ _ f17 (win (by simp [sM, hgt])) (.inr ⟨k, rfl, hks⟩)
  refine ifE (fun heq => ?_) (fun hne => ?_)
  ·have o5'' := Own.fr0 f7 (Own.fr0 f6 o5')
   have o6'' := Own.fr0 f7 o6'
   refine aV (o5''.cells.at0 rfl) (aV (o6''.cells.at0 rfl) ?_)
   rw [aY, aY]
   refine ifD (fun hl => ?_) (fun hl => ?_)
   ·exact next _ _ f17 (win (by unfold sM; rw [heq]; simp; omega)) (.inr ⟨k, rfl, hks⟩)
   ·exact next _ _ f17 (lose (by unfold sM; rw [heq]; simp; omega)) (.inr ⟨b, rfl, hbl⟩)
  ·exact next _ _ f17 (lose (by unfold sM; simp [hne]; omega)) (.inr ⟨b, rfl, hbl⟩)
 ·have : k = C.xs.length := by omega
  subst this
  rw [List.drop_length] at hg
  have := hk _ (f1.trans f2)
  rw [← hg] at this; exact this
end Go.Proofs.YtjmfpeiidlpngaaGreatDoor.Fp
namespace Go.Proofs.YtjmfpeiidlpngaaGreatDoor
set_option linter.unusedSimpArgs false
set_option linter.unusedVariables false
set_option maxRecDepth 20000
open Go
section
variable {P : Program}
theorem yy {b : Builtin} {ts : Array TypeId} {ty : TypeId} {cs : Array Bool} {args : Array Value} {s : Sem Value} {h : aB} {K : Value → aB → Prop}
  (hb : builtin b ts ty cs args = (do pure (.value (← s)))) (hk : wpH P s K h) : cQ P b ts ty cs args h K := by
 unfold cQ; rw [hb]; simp only [bind]; rw [aT]; exact hk
theorem JQ {dT sT ty e T : TypeId} {cs : Array Bool} (hd : P.underlying dT = some (.slice e)) (he : (P.info? e).isSome) (hz : ij P e = 1) {h : aB} {a : Addr} {vs : List Value} (o : Own h a vs T) (l : List UInt8)
  (hl : vs.length = l.length) {c : Nat} {K : Value → aB → Prop} (hk : ∀ h', Fr (fun b => b = a.block) h h' → Own h' a (eN l) T → K (.int .i64 l.length) h') :
  cQ P .copy #[dT, sT] ty cs #[.slice (some a) l.length c, .string (bs l)] h K := by
 refine yy (s := Builtin.copy_ #[dT, sT] ty #[.slice (some a) l.length c, .string (bs l)]) rfl ?_
 unfold Builtin.copy_
 simp only [List.getElem?_toArray, List.getElem?_cons_zero, List.getElem?_cons_succ, bind]
 rw [aT]; refine bX hd ?_
 simp only
 unfold Builtin.lenOf
 simp only [pure, Sem.bind]
 rw [aT]; refine tY he ?_
 have hsz : (bs l).size = l.length := aY l
 have hmin : Nat.min l.length l.length = l.length := Nat.min_self _
 rw [hz, hsz, hmin, aT]
 unfold Builtin.firstCells
 simp only [pure, wpH, Nat.mul_one]
 have hx : ((bs l).extract 0 l.length).data.map (fun b => Value.int .u8 b.toNat) = (eN l).toArray := by
  have : (bs l).extract 0 l.length = bs l := by rw [uP]; simp
  rw [this]; apply Array.ext'; simp [bs, eN, zt]
 rw [hx]
 rw [aT]
 have hadd : ∀ i, a.add i = ⟨a.block, 0 + i, none⟩ := fun i => by rw [o.mk_eq, gX]
 refine uy hadd (eN l) 0 _ h o.blk (.inl rfl) (EQ l) (by simp [jL, hl]) ?_
 simp only [wpH, goInt]
 refine hk _ (Fr.set _ _ rfl) ⟨o.off, o.spot, ?_⟩
 rw [mr o.blk]
 rw [yA (eN l) vs (by rw [jL, hl])]
theorem xF {h : aB} {K : ByteArray → aB → Prop} : ∀ (l : List UInt8) (a : Addr) (acc : ByteArray), (∀ j, j < l.length → hcell h (a.add j) = some (.int .u8 (l.getD j 0).toNat)) → K ⟨acc.data ++ l.toArray⟩ h → wpH P (loadBytes a acc l.length) K h
 | [], a, acc, _, hk => by simpa [loadBytes, pure, wpH] using hk
 | x :: l, a, acc, hc, hk => by
  have h0 := hc 0 (by simp)
  unfold loadBytes
  simp only [List.length_cons, bind]
  refine ⟨_, h0, ?_⟩
  have hx : ((((x :: l).getD 0 0).toNat : Int)).toNat.toUInt8 = x := by simp
  simp only [Sem.bind]
  rw [hx]
  refine xF l (a.add 1) (acc.push x) (fun j hj => ?_) ?_
  ·have := hc (j + 1) (by simp; omega)
   have e : (a.add 1).add j = a.add (j + 1) := by
    unfold Addr.add
    obtain ⟨b, o, s⟩ := a
    cases j <;> simp [Nat.add_assoc, Nat.add_comm]
   rw [e, this]; simp
  ·have : (acc.push x).data ++ l.toArray = acc.data ++ (x :: l).toArray := by simp [ByteArray.push]
   rw [this]; exact hk
theorem En {pt iT ty e : TypeId} {cs : Array Bool} (hp : P.underlying pt = some (.pointer e)) (hc : P.cellsOf e = 1) {h : aB} {a : Addr} {l : List UInt8} (o : Own h a (eN l) e) (hl : l.length ≤ 9223372036854775807)
  {K : Value → aB → Prop} (hk : ∀ h', Fr (fun b => b = a.block) h h' → K (.string (bs l)) h') : cQ P .unsafeString #[pt, iT] ty cs #[.pointer (some a), .int .i64 l.length] h K := by
 refine yy (s := Builtin.unsafeString_ #[pt, iT] ty #[.pointer (some a), .int .i64 l.length]) rfl ?_
 have hdef : Builtin.unsafeString_ #[pt, iT] ty #[.pointer (some a), .int .i64 (l.length : Int)] =
   (do
    if (l.length : Int) < 0 then runtimePanic (.error "unsafe.String: len out of range")
    if (l.length : Int) > IntKind.i64.max then unsupported (.unsafePointer "String: a length above the largest int")
    if (l.length : Int) = 0 then pure (.string .empty)
    else if ← variablesAt a (← elemOf pt) ((l.length : Int)).toNat then do
     let s ← loadBytes a .empty ((l.length : Int)).toNat
     freeze a ((l.length : Int)).toNat
     pure (.string s)
    else unsupported (.unsafePointer "String: not so many bytes at ptr")) := rfl
 rw [hdef]
 simp only [bind, pure, Sem.bind]
 rw [if_neg (by omega), if_neg (by rw [Ns]; omega)]
 by_cases h0 : l = []
 ·subst h0
  rw [if_pos (by simp)]
  exact hk h (Fr.refl _ _)
 ·have hne : ¬ ((l.length : Int) = 0) := by
   intro e; apply h0; exact List.length_eq_zero_iff.1 (by omega)
  rw [if_neg hne]
  unfold elemOf
  simp only [bind]
  rw [aT, aT]
  refine bX hp ?_
  simp only [pure, wpH]
  unfold variablesAt program shape
  simp only [bind, pure, Sem.bind, wpH]
  have hs : EZ h a.block = some (e, l.length) := by
   unfold EZ; rw [o.blk]; simp [jL]
  rw [hs]
  simp only [Sem.bind, wpH]
  rw [hc, Nat.div_one, o.off, Int.toNat_natCast, Lib.liesAt_bytes hc l.length l.length (Nat.le_refl _)]
  rw [if_pos rfl, aT]
  refine xF l a .empty (fun j hj => ?_) ?_
  ·have := o.cells.at (j := j) (v := .int .u8 (l.getD j 0).toNat) (by simp [eN, zt, hj])
   exact this
  ·unfold freeze
   simp only [Sem.bind, wpH]
   have e1 : (⟨ByteArray.empty.data ++ l.toArray⟩ : ByteArray) = bs l := by
    have : ByteArray.empty.data ++ l.toArray = l.toArray := Array.empty_append
    rw [this]; rfl
   rw [e1]
   refine hk _ ⟨?_, fun b hb hn => ?_⟩
   ·unfold rq; split <;> simp
   ·unfold rq; split
    ·rfl
    ·rw [Array.getElem?_modify, if_neg (fun e => hn e.symm)]
end
end Go.Proofs.YtjmfpeiidlpngaaGreatDoor
namespace Go.Proofs.YtjmfpeiidlpngaaGreatDoor.Fp
set_option linter.unusedSimpArgs false
set_option linter.unusedVariables false
set_option maxRecDepth 20000
open Go
theorem JI [Gh] (c : Cn) {h : aB} {Q : Value → aB → Prop} (hk : ∀ h', Fr (fun _ => False) h h' → Q (.bool (!Bs c)) h') :
  aD Tryz.prog qI #[.agg c.vals.toArray] h Q := by
 apply CR
 unfold wu
 refine aX fun a h1 f1 ha o1 => ?_
 refine aG (o1.cells.at rfl) ?_
 have hk := hk _ f1
 refine ifN (fun hn => ?_) (fun hn => ?_)
 ·refine aV (o1.cells.at0 rfl) ?_
  rw [jP]
  have : (!Bs c) = !(c.Pattern == (⟨#[]⟩ : ByteArray).toList) := by
   have e : (⟨#[]⟩ : ByteArray).toList = [] := jP []
   unfold Bs; rw [hn, e, Bool.false_or]
   cases c.Pattern <;> rfl
  rw [this] at hk; exact hk
 ·have : (!Bs c) = false := by unfold Bs; rw [hn]; rfl
  rw [this] at hk; exact hk
theorem IP [Gh] (r : aJ) {h : aB} (ok : r.ok h) (sh : te r.Contents.xs) {Q : Value → aB → Prop} (hk : ∀ h', Fr (fun _ => False) h h' → Q (.int .i64 (dQ r.Contents.xs)) h') :
  aD Tryz.prog qG #[.agg r.vals.toArray] h Q := by
 apply Co
 unfold wW
 refine aX fun a h1 f1 ha o1 => ?_
 have oc : bH 7 aI.vals aI.ok h1 r.Contents := bH.fr0 aI.ok_fr f1 ok.k14
 have ld : ∀ h', Fr (fun _ => False) h1 h' → hcell h' (a.add 14) = some (.slice r.Contents.p r.Contents.xs.length r.Contents.cap) := fun h' f => (Own.fr0 f o1).cells.at rfl
 clear ok o1
 generalize r.Contents = C at *
 have hlen := sh.len
 refine aH.mk (fun st h' => ∃ k : Nat, st.2 = k ∧ k ≤ C.xs.length ∧ Fr (fun _ => False) h1 h' ∧ dR C.xs (C.xs.drop k) k st.1 = dQ C.xs ∧ (st.1 = -1 ∨ ∃ b : Nat, st.1 = b ∧ b < C.xs.length)) (fun st _ => C.xs.length - st.2.toNat)
  ⟨0, rfl, by omega, Fr.refl _ _, rfl, .inl rfl⟩ ?_
 rintro ⟨best, i⟩ h2 ⟨k, hi, hkl, f2, hg, hb⟩
 simp only at hi hg hb
 subst hi
 unfold qQ
 refine aC (ld _ f2) ?_
 refine ifD (fun hlt => ?_) (fun hge => ?_)
 ·have hks : k < C.xs.length := by omega
  have oc2 := bH.fr0 aI.ok_fr f2 oc
  rw [xN _ k hks] at hg
  have hpat := sh.pat _ (List.getElem_mem hks)
  refine aC (ld _ f2) ?_
  refine bY oc2 k rfl hks fun ad cc okc => ?_
  rw [Int.toNat_natCast]
  refine (aV (cc.at0 rfl) (aG (cc.at rfl) (aG (cc.at rfl) (aG (cc.at rfl) (aA (cc.at rfl) (aA (cc.at rfl) (aG (cc.at rfl) ?_)))))))
  refine nU rfl rfl fun t5 h3 f3 ht5 o5 => ?_
  have f13 := f2.trans f3
  have next : ∀ (b' : Int) (h' : aB), Fr (fun _ => False) h1 h' → dR C.xs (C.xs.drop (k + 1)) (k + 1) b' = dQ C.xs → (b' = -1 ∨ ∃ b : Nat, b' = b ∧ b < C.xs.length) →
    (∃ k' : Nat, (b', IntKind.wrap .i64 ((k : Int) + 1)).2 = k' ∧ k' ≤ C.xs.length ∧ Fr (fun _ => False) h1 h' ∧ dR C.xs (C.xs.drop k') k' (b', IntKind.wrap .i64 ((k : Int) + 1)).1 = dQ C.xs ∧ ((b', IntKind.wrap .i64 ((k : Int) + 1)).1 = -1 ∨ ∃ b : Nat, (b', IntKind.wrap .i64 ((k : Int) + 1)).1 = b ∧ b < C.xs.length)) ∧ C.xs.length - ((b', IntKind.wrap .i64 ((k : Int) + 1)).2).toNat < C.xs.length - k := by
   intro b' h' f' hg' hb'
   rw [wr (by omega) (by omega)]
   exact ⟨⟨k + 1, by simp, by omega, f', hg', hb'⟩, by simp only; omega⟩
  refine (aV (o5.cells.at0 rfl) (aG (o5.cells.at rfl) (aG (o5.cells.at rfl) (aG (o5.cells.at rfl) (aA (o5.cells.at rfl) (aA (o5.cells.at rfl) (aG (o5.cells.at rfl) ?_)))))))
  refine JI _ fun h4 f4 => ⟨_, rfl, ?_⟩
  have f14 := f13.trans f4
  have o5' := Own.fr0 f4 o5
  refine ifN (fun hn => ?_) (fun hn => ?_)
  ·rw [if_pos (by simpa using hn)] at hg
   exact next _ _ f14 hg hb
  rw [if_neg (by simpa using hn)] at hg
  refine aG (o5'.cells.at rfl) ?_
  refine ifB (fun hf => ?_) (fun hf => ?_)
  ·rw [if_pos hf] at hg
   have := hk _ (f1.trans f14)
   rw [← hg] at this; exact this
  rw [if_neg (by simp [hf])] at hg
  refine ifD (fun hneg => ?_) (fun hneg => ?_)
  ·rw [if_pos hneg] at hg
   exact next _ _ f14 hg (.inr ⟨k, rfl, hks⟩)
  rw [if_neg hneg] at hg
  obtain ⟨b, rfl, hbl⟩ : ∃ b : Nat, best = b ∧ b < C.xs.length := by
   rcases hb with hb | hb
   ·omega
   ·exact hb
  refine aC (ld _ f14) ?_
  have oc3 := bH.fr0 aI.ok_fr f14 oc
  have hbpat := sh.pat _ (List.getElem_mem hbl)
  refine bY oc3 b rfl hbl fun ad2 cb okb => ?_
  rw [Int.toNat_natCast]
  refine aV (cb.at0 rfl) (aV (o5'.cells.at0 rfl) ?_)
  refine Ab _ (by omega) fun h5 f5 => ⟨_, rfl, ?_⟩
  refine Ab _ (by omega) fun h6 f6 => ⟨_, rfl, ?_⟩
  have o6 := Own.fr0 f6 (Own.fr0 f5 o5')
  have f16 := (f14.trans f5).trans f6
  have hgd : C.xs.getD ((b : Int)).toNat noC = C.xs[b] := by
   rw [Int.toNat_natCast, List.getD_eq_getElem?_getD, List.getElem?_eq_getElem hbl]; rfl
  rw [hgd] at hg
  have win : sM C.xs[k] C.xs[b] = true → dR C.xs (C.xs.drop (k + 1)) (k + 1) k = dQ C.xs := fun hw => by rw [if_pos hw] at hg; exact hg
  have lose : sM C.xs[k] C.xs[b] = false → dR C.xs (C.xs.drop (k + 1)) (k + 1) b = dQ C.xs := fun hw => by rw [if_neg (by simp [hw])] at hg; exact hg
  refine ifD (fun hgt => ?_) (fun hgt => ?_)
  ·exact next _ _ f16 (win (by simp [sM, hgt])) (.inr ⟨k, rfl, hks⟩)
  refine aV (o6.cells.at0 rfl) ?_
  refine Ab _ (by omega) fun h7 f7 => ⟨_, rfl, ?_⟩
  refine Ab _ (by omega) fun h8 f8 => ⟨_, rfl, ?_⟩
  have o8 := Own.fr0 f8 (Own.fr0 f7 o6)
  have f18 := (f16.trans f7).trans f8
  refine ifE (fun heq => ?_) (fun hne => ?_)
  ·refine aV (o8.cells.at0 rfl) ?_
   rw [aY, aY]
   refine ifD (fun hl => ?_) (fun hl => ?_)
   ·exact next _ _ f18 (win (by unfold sM; rw [heq]; simp; omega)) (.inr ⟨k, rfl, hks⟩)
   ·exact next _ _ f18 (lose (by unfold sM; rw [heq]; simp; omega)) (.inr ⟨b, rfl, hbl⟩)
  ·exact next _ _ f18 (lose (by unfold sM; simp [hne]; omega)) (.inr ⟨b, rfl, hbl⟩)
 ·have : k = C.xs.length := by omega
  subst this
  rw [List.drop_length] at hg
  have := hk _ (f1.trans f2)
  rw [← hg] at this; exact this
theorem FG : ii Tryz.prog aM gP Tryz.t5 (.int .u8 0) := ⟨Tryz.underlying98, by kernel_rfl, by kernel_rfl, by kernel_rfl, by decide⟩
theorem Ig [Gh] (s : List UInt8) (hs : s.length < 2 ^ 40) {h : aB} {Q : Value → aB → Prop} (hk : ∀ h', Fr (fun _ => False) h h' → Q (.string (bs s)) h') :
  aD Tryz.prog mw #[.string (bs s)] h Q := by
 apply Bh
 unfold vB
 have inner : aD Tryz.prog gY #[.string (bs s)] h (fun v h' => v = .string (bs s) ∧ Fr (fun _ => False) h h') := by
  apply qA
  unfold kW
  rw [aY]
  refine ifE (fun h0 => ?_) (fun h0 => ?_)
  ·have : s = [] := List.length_eq_zero_iff.1 (by omega)
   subst this; exact ⟨rfl, Fr.refl _ _⟩
  have eb : (Tryz.t5).bytes = 1 := by kernel_rfl
  refine yT FG s.length rfl (by rw [eb]; omega) fun a h1 f1 ha o1 => ⟨_, _, _, rfl, ?_⟩
  refine JQ Tryz.underlying98 (by kernel_rfl) (by kernel_rfl) o1 s (by show (List.replicate s.length [Value.int .u8 0]).flatten.length = _; simp) fun h2 f2 o2 => ⟨_, rfl, ?_⟩
  have f02 : Fr (fun _ => False) h h2 := f1.tr f2 (fun x hx e => by subst e; rw [ha] at hx; exact absurd hx (Nat.lt_irrefl _))
  refine bP 0 rfl (by omega) (aS ?_)
  refine En Tryz.underlying248 (by kernel_rfl) o2 (by omega) fun h3 f3 => ⟨_, rfl, rfl, ?_⟩
  exact f02.tr f3 (fun x hx e => by subst e; rw [ha] at hx; exact absurd hx (Nat.lt_irrefl _))
 refine inner.mono ?_
 rintro v h' ⟨rfl, f⟩
 exact ⟨_, rfl, hk _ f⟩
def ve (cs : List Cn) : Option (List UInt8 × Bool) :=
 if dQ cs < 0 then none else
  let c := cs.getD (dQ cs).toNat noC
  some (if c.Nocase then c.Pattern.map fR else c.Pattern, c.Nocase)
def GZ (cs : List Cn) : Value := match ve cs with
 | none => .tuple #[.agg #[.string (bs []), .bool false], .bool false]
 | some (t, n) => .tuple #[.agg #[.string (bs t), .bool n], .bool true]
theorem wD (all : List Cn) : ∀ (l : List Cn) (k : Nat) (best : Int), k + l.length = all.length → best < all.length → dR all l k best < all.length
 | [], _, _, _, hb => hb
 | c :: r, k, best, hl, hb => by
  simp only [List.length_cons] at hl
  unfold dR
  have i1 := wD all r (k + 1) best (by omega) hb
  have i2 := wD all r (k + 1) k (by omega) (by omega)
  split
  ·exact i1
  split
  ·omega
  split
  ·exact i2
  split <;> assumption
theorem rT (all : List Cn) : dQ all < all.length := wD all all 0 (-1) (by simp) (by omega)
end Go.Proofs.YtjmfpeiidlpngaaGreatDoor.Fp
