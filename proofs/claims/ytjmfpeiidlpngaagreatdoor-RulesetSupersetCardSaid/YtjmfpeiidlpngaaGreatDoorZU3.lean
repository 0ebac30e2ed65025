/-
  Part 3 of 5 of the proofs: the texts of wip/ in one file, without what this claim does not use.
-/
import Derived.Test.YtjmfpeiidlpngaaGreatDoorZU2
namespace Go.Proofs.YtjmfpeiidlpngaaGreatDoor
set_option linter.unusedSimpArgs false
set_option linter.unusedVariables false
set_option maxRecDepth 20000
open Go IntKind
variable [Gh]
def ui (b : Bool) (c d : Int) (Q : QT) (h : aA) : Prop :=
 alV h (.cells #[.bool b, .int .u64 c, .int .u64 d] cZ) fun a h1 => ldB h1 a fun f => if f = true then (Q (.bool true) h1) else (ldI h1 (a.add 1) .u64 fun g => if (g == 0) = true then (ldI h1 (a.add 2) .u64 fun i => Q (.bool (decide (i ≤ 4294967295))) h1) else (Q (.bool false) h1))
set_option maxRecDepth 100000 in
theorem yC (a b c : _) {Q : QT} {h : aA} (hk : ui a b c Q h) : aE Tryz.prog jT #[.agg #[.bool a, .int .u64 b, .int .u64 c]] h Q :=
 aW follows Tryz.func119 (Tryz.call119 _) rfl rfl [] []
 trivial
 trivial (by as_aux_lemma => kernel_rfl) hk
def fO (b : Option Addr) (c d : Nat) (f : Value) (Q : QT) (h : aA) : Prop :=
 aE Tryz.prog gG #[.slice b c d, f] h fun v h1 => ∃ a, v = .int .i64 a ∧ Q (.bool (decide (a ≥ 0))) h1
set_option maxRecDepth 100000 in
theorem kK (a b c d : _) {Q : QT} {h : aA} (hk : fO a b c d Q h) : aE Tryz.prog cM #[.slice a b c, d] h Q :=
 aW follows Tryz.func120 (Tryz.call120 _) rfl rfl [] []
 trivial
 trivial (by as_aux_lemma => kernel_rfl) hk
def pD (g : Bool) (i j : Int) (k : Bool) (l m : Int) (b : Addr) (Q : QT) (h : aA) : Prop :=
 alV h (.cells #[.bool g, .int .u64 i, .int .u64 j, .bool k, .int .u64 l, .int .u64 m] m8) fun a h1 => ldB h1 a fun n => ldI h1 (a.add 1) .u64 fun o => ldI h1 (a.add 2) .u64 fun p => ldB h1 (a.add 3) fun q => ldI h1 (a.add 4) .u64 fun r => ldI h1 (a.add 5) .u64 fun s => aE Tryz.prog pU #[.agg #[.bool n, .int .u64 o, .int .u64 p, .bool q, .int .u64 r, .int .u64 s]] h1 fun v h2 => ∃ c, v = .bool c ∧ if c = true then (ldB h2 a fun t => ldB h2 b fun u => if (t == u) = true then (ldB h2 a fun w => ldI h2 (a.add 1) .u64 fun x => ldI h2 (a.add 2) .u64 fun y => ldB h2 b fun z => ldI h2 (b.add 1) .u64 fun A => ldI h2 (b.add 2) .u64 fun B => aE Tryz.prog iY #[.agg #[.bool w, .int .u64 x, .int .u64 y], .agg #[.bool z, .int .u64 A, .int .u64 B]] h2 fun v h3 => ∃ d, v = .int .i64 d ∧ if (decide (d ≤ 0)) = true then (ldB h3 b fun C => ldI h3 (b.add 1) .u64 fun D => ldI h3 (b.add 2) .u64 fun G => ldB h3 (a.add 3) fun I => ldI h3 (a.add 4) .u64 fun J => ldI h3 (a.add 5) .u64 fun L => aE Tryz.prog iY #[.agg #[.bool C, .int .u64 D, .int .u64 G], .agg #[.bool I, .int .u64 J, .int .u64 L]] h3 fun v h4 => ∃ f, v = .int .i64 f ∧ Q (.bool (decide (f ≤ 0))) h4) else (Q (.bool false) h3)) else (Q (.bool false) h2)) else (Q (.bool false) h2)
set_option maxRecDepth 100000 in
theorem uH (a b c d f g i : _) {Q : QT} {h : aA} (hk : pD a b c d f g i Q h) : aE Tryz.prog oE #[.agg #[.bool a, .int .u64 b, .int .u64 c, .bool d, .int .u64 f, .int .u64 g], .pointer (some i)] h Q :=
 aW follows Tryz.func121 (Tryz.call121 _) rfl rfl [] []
 trivial
 trivial (by as_aux_lemma => kernel_rfl) hk
def uG (f : Bool) (g i : Int) (j : Bool) (k l : Int) (Q : QT) (h : aA) : Prop :=
 alV h (.cells #[.bool f, .int .u64 g, .int .u64 i, .bool j, .int .u64 k, .int .u64 l] m8) fun a h1 => ldB h1 a fun m => ldI h1 (a.add 1) .u64 fun n => ldI h1 (a.add 2) .u64 fun o => aE Tryz.prog jT #[.agg #[.bool m, .int .u64 n, .int .u64 o]] h1 fun v h2 => ∃ b, v = .bool b ∧ if b = true then (ldB h2 (a.add 3) fun p => ldI h2 (a.add 4) .u64 fun q => ldI h2 (a.add 5) .u64 fun r => aE Tryz.prog jT #[.agg #[.bool p, .int .u64 q, .int .u64 r]] h2 fun v h3 => ∃ c, v = .bool c ∧ if c = true then (ldB h3 a fun s => ldB h3 (a.add 3) fun t => if (s == t) = true then (ldB h3 a fun u => ldI h3 (a.add 1) .u64 fun w => ldI h3 (a.add 2) .u64 fun x => ldB h3 (a.add 3) fun y => ldI h3 (a.add 4) .u64 fun z => ldI h3 (a.add 5) .u64 fun A => aE Tryz.prog iY #[.agg #[.bool u, .int .u64 w, .int .u64 x], .agg #[.bool y, .int .u64 z, .int .u64 A]] h3 fun v h4 => ∃ d, v = .int .i64 d ∧ Q (.bool (decide (d ≤ 0))) h4) else (Q (.bool false) h3)) else (Q (.bool false) h3)) else (Q (.bool false) h2)
set_option maxRecDepth 100000 in
theorem Af (a b c d f g : _) {Q : QT} {h : aA} (hk : uG a b c d f g Q h) : aE Tryz.prog pU #[.agg #[.bool a, .int .u64 b, .int .u64 c, .bool d, .int .u64 f, .int .u64 g]] h Q :=
 aW follows Tryz.func122 (Tryz.call122 _) rfl rfl [] []
 trivial
 trivial (by as_aux_lemma => kernel_rfl) hk
def rx (c : Bool) (d f : Int) (g : Bool) (i j : Int) (Q : QT) (h : aA) : Prop :=
 alV h (.cells #[.bool c, .int .u64 d, .int .u64 f] cZ) fun b h1 => alV h1 (.cells #[.bool g, .int .u64 i, .int .u64 j] cZ) fun a h2 => ldB h2 b fun k => ldI h2 (b.add 1) .u64 fun l => ldI h2 (b.add 2) .u64 fun m => ldB h2 a fun n => ldI h2 (a.add 1) .u64 fun o => ldI h2 (a.add 2) .u64 fun p => if ((k == n) && ((l == o) && ((m == p) && true))) = true then (Q (.int .i64 0) h2) else (ldB h2 b fun q => ldB h2 a fun r => if (!(q == r)) = true then (ldB h2 a fun s => if s = true then (Q (.int .i64 (-1)) h2) else (Q (.int .i64 1) h2)) else (ldI h2 (b.add 1) .u64 fun t => ldI h2 (a.add 1) .u64 fun u => if (t != u) = true then (ldI h2 (b.add 1) .u64 fun w => ldI h2 (a.add 1) .u64 fun x => if (decide (w < x)) = true then (Q (.int .i64 (-1)) h2) else (Q (.int .i64 1) h2)) else (ldI h2 (b.add 2) .u64 fun y => ldI h2 (a.add 2) .u64 fun z => if (decide (y < z)) = true then (Q (.int .i64 (-1)) h2) else (Q (.int .i64 1) h2))))
set_option maxRecDepth 100000 in
theorem w5 (a b c d f g : _) {Q : QT} {h : aA} (hk : rx a b c d f g Q h) : aE Tryz.prog iY #[.agg #[.bool a, .int .u64 b, .int .u64 c], .agg #[.bool d, .int .u64 f, .int .u64 g]] h Q :=
 aW follows Tryz.func123 (Tryz.call123 _) rfl rfl [] []
 trivial
 trivial (by as_aux_lemma => kernel_rfl) hk
def gH (b : Option Addr) (c d : Nat) (f : Value) (Q : QT) (h : aA) : Prop :=
 aE Tryz.prog gU #[.slice b c d, f] h fun v h1 => ∃ a, v = .int .i64 a ∧ Q (.bool (decide (a ≥ 0))) h1
set_option maxRecDepth 100000 in
theorem ll (a b c d : _) {Q : QT} {h : aA} (hk : gH a b c d Q h) : aE Tryz.prog cR #[.slice a b c, d] h Q :=
 aW follows Tryz.func124 (Tryz.call124 _) rfl rfl [] []
 trivial
 trivial (by as_aux_lemma => kernel_rfl) hk
def oD (c d : Int) (a : Addr) (Q : QT) (h : aA) : Prop :=
 alV h (.cells #[.int .i64 c, .int .i64 d] qN) fun b h1 => ldI h1 b .i64 fun f => ldI h1 a .i64 fun g => if (decide (f ≤ g)) = true then (ldI h1 a .i64 fun i => ldI h1 (b.add 1) .i64 fun j => Q (.bool (decide (i ≤ j))) h1) else (Q (.bool false) h1)
set_option maxRecDepth 100000 in
theorem uw (a b c : _) {Q : QT} {h : aA} (hk : oD a b c Q h) : aE Tryz.prog ny #[.agg #[.int .i64 a, .int .i64 b], .pointer (some c)] h Q :=
 aW follows Tryz.func125 (Tryz.call125 _) rfl rfl [] []
 trivial
 trivial (by as_aux_lemma => kernel_rfl) hk
def rS (b : Addr) (g : ByteArray) (i : Int) (Q : QT) (a : Int) (h : aA) (Kn1 : Int → aA → Prop) : Prop :=
 if (decide (a < i)) = true then (q6 g a fun j => ldS h b fun c => q6 c a fun k => aE Tryz.prog lS #[.int .u8 j] h fun v h2 => ∃ d, v = .int .u8 d ∧ (ldS h2 b fun l => (.string l : Value) = .string c) ∧ aE Tryz.prog lS #[.int .u8 k] h2 fun v h3 => ∃ f, v = .int .u8 f ∧ if (d != f) = true then (Q (.bool false) h3) else (Kn1 (wrap .i64 (a + 1)) h3)) else (Q (.bool true) h)
def xm (f : ByteArray) (g i j : Bool) (k l : Int) (m : Bool) (c : ByteArray) (a : Int) (Q : QT) (h : aA) : Prop :=
 alV h (.cells #[.string f, .bool g, .bool i, .bool j, .int .i64 k, .int .i64 l, .bool m] ei) fun b h1 => if (decide (a < 0)) = true then (Q (.bool false) h1) else (if (decide (a > ((c.size : Nat) : Int))) = true then (Q (.bool false) h1) else (ldS h1 b fun n => if (decide ((wrap .i64 (((c.size : Nat) : Int) - a)) < ((n.size : Nat) : Int))) = true then (Q (.bool false) h1) else (ldS h1 b fun o => pI c (some a) (some (wrap .i64 (a + ((o.size : Nat) : Int)))) fun d => ldB h1 (b.add 1) fun p => if (!p) = true then (ldS h1 b fun q => Q (.bool (d.toList == q.toList)) h1) else (aJ (fun (s : Int) h Kn => rS b d ((d.size : Nat) : Int) Q s h Kn) 0 h1))))
set_option maxRecDepth 100000 in
theorem BZ (b c d f g i j k l : _) {Q : QT} {h : aA} (hk : xm b c d f g i j k l Q h) : aE Tryz.prog rQ #[.agg #[.string b, .bool c, .bool d, .bool f, .int .i64 g, .int .i64 i, .bool j], .string k, .int .i64 l] h Q :=
 aW follows Tryz.func142 (Tryz.call142 _) rfl rfl [] [(16, fun e h => dA (e 3) fun m => dS (e 7) fun n => dI .i64 (e 43) fun o => dI .i64 (e 44) fun a => aJ (fun (s : Int) h Kn => rS m n o Q s h Kn) a h)]
 trivial
 ⟨⟨by kernel_rfl, fun e h he hk => by
 have F := Ag.nil (e := e)
 have ⟨m, F, hk⟩ := eA F hk
 have ⟨n, F, hk⟩ := eS F hk
 have ⟨o, F, hk⟩ := eI F hk
 have ⟨a, F, hk⟩ := eI F hk
 exact cA (s0 := a) follows (fun _ h => by cases h) he F (fun s => [(44, .int .i64 s)]) (by kernel_rfl) (F.take 1) hk (fun Kn1 e h => dI .i64 (e 44) fun a => Kn1 a h) (fun Kn1 e h hk => by
  have F := Ag.nil (e := e)
  have ⟨a, F, hk⟩ := eI F hk
  exact ⟨a, F, hk⟩)
  (fun Kn1 => []) (fun Kn1 => [])
  (fun Kn1 => trivial)
  (fun Kn1 => trivial) (fun e s h Kn1 => by as_aux_lemma => kernel_rfl)⟩, trivial⟩ (by as_aux_lemma => kernel_rfl) hk
def jW (c : Option Addr) (d g : Nat) (i : Option Addr) (j n : Nat) (k : Int) (Q : QT) (a : Int) (h : aA) (Kn1 : Int → aA → Prop) : Prop :=
 if (decide (a < k)) = true then (bR a j (nn i fun l => ldI h (l.add (a.toNat * 1)) .u8 fun b => if (decide (65 ≤ b)) = true then (if (decide (b ≤ 90)) = true then (bR a d (nn c fun m => st1 h (m.add (a.toNat * 1)) (.int .u8 (wrap .u8 ((wrap .u8 (b + 97)) - 65))) fun h2 => Kn1 (wrap .i64 (a + 1)) h2)) else (Kn1 (wrap .i64 (a + 1)) h)) else (Kn1 (wrap .i64 (a + 1)) h))) else (px Tryz.prog aV dX (.slice c d g) h fun v h3 => ∃ f, v = .string f ∧ Q (.string f) h3)
def nU (d : ByteArray) (Q : QT) (h : aA) : Prop :=
 px Tryz.prog xL aV (.string d) h fun v h1 => ∃ b a c, v = .slice b a c ∧ aJ (fun (s : Int) h Kn => jW b a c b a c ((a : Nat) : Int) Q s h Kn) 0 h1
set_option maxRecDepth 100000 in
theorem sS (b : _) {Q : QT} {h : aA} (hk : nU b Q h) : aE Tryz.prog m5 #[.string b] h Q :=
 aW follows Tryz.func143 (Tryz.call143 _) rfl rfl [] [(8, fun e h => dL (e 3) fun c d f => dL (e 8) fun g i j => dI .i64 (e 9) fun k => dI .i64 (e 10) fun a => aJ (fun (s : Int) h Kn => jW c d f g i j k Q s h Kn) a h)]
 trivial
 ⟨⟨by kernel_rfl, fun e h he hk => by
 have F := Ag.nil (e := e)
 have ⟨c, d, f, F, hk⟩ := eL F hk
 have ⟨g, i, j, F, hk⟩ := eL F hk
 have ⟨k, F, hk⟩ := eI F hk
 have ⟨a, F, hk⟩ := eI F hk
 exact cA (s0 := a) follows (fun _ h => by cases h) he F (fun s => [(10, .int .i64 s)]) (by kernel_rfl) (F.take 1) hk (fun Kn1 e h => dI .i64 (e 10) fun a => Kn1 a h) (fun Kn1 e h hk => by
  have F := Ag.nil (e := e)
  have ⟨a, F, hk⟩ := eI F hk
  exact ⟨a, F, hk⟩)
  (fun Kn1 => []) (fun Kn1 => [])
  (fun Kn1 => trivial)
  (fun Kn1 => trivial) (fun e s h Kn1 => by as_aux_lemma => kernel_rfl)⟩, trivial⟩ (by as_aux_lemma => kernel_rfl) hk
def cJ (d : ByteArray) (f : Option Addr) (g i : Nat) (j n k : Int) (Q : QT) (Kn1 : (Option Addr) × Nat × Nat × Int → aA → Prop) (h : aA) : Prop :=
 q6 d j fun l => alV h (.cells #[.int .u8 l] pb) fun m h2 => dU Tryz.prog .append #[aV, aV] aV #[false, false] #[.slice f g i, .slice (some m) 1 1] h2 fun v h3 => ∃ a b c, v = .slice a b c ∧ Kn1 (a, b, c, wrap .i64 (k + 1)) h3
def jS (g : ByteArray) (i : Int) (Q : QT) (b : Option Addr) (c d : Nat) (a : Int) (h : aA) (Kn1 : (Option Addr) × Nat × Nat × Int → aA → Prop) : Prop :=
 if (decide (a < i)) = true then (q6 g a fun f => if (f == 9) = true then (if (f == 9) = true then (Kn1 (b, c, d, wrap .i64 (a + 1)) h) else (cJ g b c d a i a Q Kn1 h)) else (if (f == 10) = true then (if (f == 10) = true then (Kn1 (b, c, d, wrap .i64 (a + 1)) h) else (cJ g b c d a i a Q Kn1 h)) else (if (f == 13) = true then (if (f == 13) = true then (Kn1 (b, c, d, wrap .i64 (a + 1)) h) else (cJ g b c d a i a Q Kn1 h)) else (if (f == 32) = true then (Kn1 (b, c, d, wrap .i64 (a + 1)) h) else (cJ g b c d a i a Q Kn1 h))))) else (px Tryz.prog aV dX (.slice b c d) h fun v h1 => ∃ j, v = .string j ∧ Q (.string j) h1)
def nC (a : ByteArray) (Q : QT) (h : aA) : Prop :=
 aJ (fun (s : (Option Addr) × Nat × Nat × Int) h Kn => jS a ((a.size : Nat) : Int) Q s.1 s.2.1 s.2.2.1 s.2.2.2 h Kn) (none, 0, 0, 0) h
set_option maxRecDepth 100000 in
theorem tf (f : _) {Q : QT} {h : aA} (hk : nC f Q h) : aE Tryz.prog m9 #[.string f] h Q :=
 aW follows Tryz.func144 (Tryz.call144 _) rfl rfl [] [(8, fun e h => dS (e 0) fun f => dI .i64 (e 6) fun g => dL (e 3) fun a b c => dI .i64 (e 7) fun d => aJ (fun (s : (Option Addr) × Nat × Nat × Int) h Kn => jS f g Q s.1 s.2.1 s.2.2.1 s.2.2.2 h Kn) (a, b, c, d) h)]
 trivial
 ⟨⟨by kernel_rfl, fun e h he hk => by
 have F := Ag.nil (e := e)
 have ⟨f, F, hk⟩ := eS F hk
 have ⟨g, F, hk⟩ := eI F hk
 have ⟨a, b, c, F, hk⟩ := eL F hk
 have ⟨d, F, hk⟩ := eI F hk
 exact cA (s0 := (a, b, c, d)) follows (fun _ h => by cases h) he F (fun s => [(7, .int .i64 s.2.2.2), (3, .slice s.1 s.2.1 s.2.2.1)]) (by kernel_rfl) (F.take 2) hk (fun Kn1 e h => dL (e 3) fun a b c => dI .i64 (e 7) fun d => Kn1 (a, b, c, d) h) (fun Kn1 e h hk => by
  have F := Ag.nil (e := e)
  have ⟨a, b, c, F, hk⟩ := eL F hk
  have ⟨d, F, hk⟩ := eI F hk
  exact ⟨(a, b, c, d), F, hk⟩)
  (fun Kn1 => [(15, fun e h => dS (e 0) fun f => dL (e 3) fun a b c => dI .i64 (e 4) fun i => dI .i64 (e 6) fun g => dI .i64 (e 7) fun d => cJ f a b c i g d Q Kn1 h)]) (fun Kn1 => [])
  (fun Kn1 => ⟨fun e h _ hk => by
 have F := Ag.nil (e := e)
 have ⟨f, F, hk⟩ := eS F hk
 have ⟨a, b, c, F, hk⟩ := eL F hk
 have ⟨i, F, hk⟩ := eI F hk
 have ⟨g, F, hk⟩ := eI F hk
 have ⟨d, F, hk⟩ := eI F hk
 exact ii F (by as_aux_lemma => kernel_rfl) hk, trivial⟩)
  (fun Kn1 => trivial) (fun e s h Kn1 => by as_aux_lemma => kernel_rfl)⟩, trivial⟩ (by as_aux_lemma => kernel_rfl) hk
def cD (f : ByteArray) (g : Option Addr) (i j : Nat) (a : Int) (Q : QT) (Kn1 : (Option Addr) × Nat × Nat × Int → aA → Prop) (h : aA) : Prop :=
 q6 f a fun k => alV h (.cells #[.int .u8 k] pb) fun l h6 => dU Tryz.prog .append #[aV, aV] aV #[false, false] #[.slice g i j, .slice (some l) 1 1] h6 fun v h7 => ∃ b c d, v = .slice b c d ∧ Kn1 (b, c, d, wrap .i64 (a + 1)) h7
def jd (b : ByteArray) (Q : QT) (c : Option Addr) (d f : Nat) (a : Int) (h : aA) (Kn1 : (Option Addr) × Nat × Nat × Int → aA → Prop) : Prop :=
 if (decide (a < ((b.size : Nat) : Int))) = true then (q6 b a fun n => if (n == 37) = true then (if (decide ((wrap .i64 (((b.size : Nat) : Int) - a)) > 2)) = true then (q6 b (wrap .i64 (a + 1)) fun o => q6 b (wrap .i64 (a + 2)) fun p => aE Tryz.prog iQ #[.int .u8 o] h fun v h1 => ∃ g, v = .int .i64 g ∧ aE Tryz.prog iQ #[.int .u8 p] h1 fun v h2 => ∃ i, v = .int .i64 i ∧ if (decide (g ≥ 0)) = true then (if (decide (i ≥ 0)) = true then (alV h2 (.cells #[.int .u8 (wrap .u8 (wrap .i64 ((wrap .i64 (16 * g)) + i)))] pb) fun q h3 => dU Tryz.prog .append #[aV, aV] aV #[false, false] #[.slice c d f, .slice (some q) 1 1] h3 fun v h4 => ∃ j k l, v = .slice j k l ∧ Kn1 (j, k, l, wrap .i64 ((wrap .i64 (a + 2)) + 1)) h4) else (cD b c d f a Q Kn1 h2)) else (cD b c d f a Q Kn1 h2)) else (cD b c d f a Q Kn1 h)) else (cD b c d f a Q Kn1 h)) else (px Tryz.prog aV dX (.slice c d f) h fun v h5 => ∃ m, v = .string m ∧ Q (.string m) h5)
def mv (a : ByteArray) (Q : QT) (h : aA) : Prop :=
 aJ (fun (s : (Option Addr) × Nat × Nat × Int) h Kn => jd a Q s.1 s.2.1 s.2.2.1 s.2.2.2 h Kn) (none, 0, 0, 0) h
set_option maxRecDepth 100000 in
theorem rR (f : _) {Q : QT} {h : aA} (hk : mv f Q h) : aE Tryz.prog ma #[.string f] h Q :=
 aW follows Tryz.func145 (Tryz.call145 _) rfl rfl [] [(8, fun e h => dS (e 0) fun f => dL (e 3) fun a b c => dI .i64 (e 4) fun d => aJ (fun (s : (Option Addr) × Nat × Nat × Int) h Kn => jd f Q s.1 s.2.1 s.2.2.1 s.2.2.2 h Kn) (a, b, c, d) h)]
 trivial
 ⟨⟨by kernel_rfl, fun e h he hk => by
 have F := Ag.nil (e := e)
 have ⟨f, F, hk⟩ := eS F hk
 have ⟨a, b, c, F, hk⟩ := eL F hk
 have ⟨d, F, hk⟩ := eI F hk
 exact cA (s0 := (a, b, c, d)) follows (fun _ h => by cases h) he F (fun s => [(4, .int .i64 s.2.2.2), (3, .slice s.1 s.2.1 s.2.2.1)]) (by kernel_rfl) (F.take 2) hk (fun Kn1 e h => dL (e 3) fun a b c => dI .i64 (e 4) fun d => Kn1 (a, b, c, d) h) (fun Kn1 e h hk => by
  have F := Ag.nil (e := e)
  have ⟨a, b, c, F, hk⟩ := eL F hk
  have ⟨d, F, hk⟩ := eI F hk
  exact ⟨(a, b, c, d), F, hk⟩)
  (fun Kn1 => [(22, fun e h => dS (e 0) fun f => dL (e 3) fun a b c => dI .i64 (e 4) fun d => cD f a b c d Q Kn1 h)]) (fun Kn1 => [])
  (fun Kn1 => ⟨fun e h _ hk => by
 have F := Ag.nil (e := e)
 have ⟨f, F, hk⟩ := eS F hk
 have ⟨a, b, c, F, hk⟩ := eL F hk
 have ⟨d, F, hk⟩ := eI F hk
 exact ii F (by as_aux_lemma => kernel_rfl) hk, trivial⟩)
  (fun Kn1 => trivial) (fun e s h Kn1 => by as_aux_lemma => kernel_rfl)⟩, trivial⟩ (by as_aux_lemma => kernel_rfl) hk
def jE (k : ByteArray) (o : Int) (Q : QT) (c : Option Addr) (d f : Nat) (j a b : Int) (h : aA) (Kn1 : (Option Addr) × Nat × Nat × Int × Int × Int → aA → Prop) : Prop :=
 if (decide (b < o)) = true then (q6 k b fun p => if (p == 61) = true then (px Tryz.prog aV dX (.slice c d f) h fun v h1 => ∃ g, v = .string g ∧ Q (.string g) h1) else (q6 k b fun q => aE Tryz.prog jv #[.string (⟨#[65, 66, 67, 68, 69, 70, 71, 72, 73, 74, 75, 76, 77, 78, 79, 80, 81, 82, 83, 84, 85, 86, 87, 88, 89, 90, 97, 98, 99, 100, 101, 102, 103, 104, 105, 106, 107, 108, 109, 110, 111, 112, 113, 114, 115, 116, 117, 118, 119, 120, 121, 122, 48, 49, 50, 51, 52, 53, 54, 55, 56, 57, 43, 47]⟩ : ByteArray), .int .u8 q] h fun v h2 => ∃ i, v = .int .i64 i ∧ if (decide (i < 0)) = true then (Kn1 (c, d, f, j, a, wrap .i64 (b + 1)) h2) else (0 ≤ (6 : Int) ∧ if (decide ((wrap .i64 (a + 6)) ≥ 8)) = true then (0 ≤ (wrap .i64 ((wrap .i64 (a + 6)) - 8)) ∧ alV h2 (.cells #[.int .u8 (wrap .u8 (Int.fdiv (wrap .i64 (BitVec.toNat (BitVec.ofInt (IntKind.bits .i64) (wrap .i64 (j * 2 ^ (min (Int.toNat 6) (IntKind.bits .i64)))) ||| BitVec.ofInt (IntKind.bits .i64) i) : Int)) (2 ^ (min (Int.toNat (wrap .i64 ((wrap .i64 (a + 6)) - 8))) (IntKind.bits .i64)))))] pb) fun r h3 => dU Tryz.prog .append #[aV, aV] aV #[false, false] #[.slice c d f, .slice (some r) 1 1] h3 fun v h4 => ∃ l m n, v = .slice l m n ∧ 0 ≤ (wrap .i64 ((wrap .i64 (a + 6)) - 8)) ∧ Kn1 (l, m, n, wrap .i64 (BitVec.toNat (BitVec.ofInt (IntKind.bits .i64) (wrap .i64 (BitVec.toNat (BitVec.ofInt (IntKind.bits .i64) (wrap .i64 (j * 2 ^ (min (Int.toNat 6) (IntKind.bits .i64)))) ||| BitVec.ofInt (IntKind.bits .i64) i) : Int)) &&& BitVec.ofInt (IntKind.bits .i64) (wrap .i64 ((wrap .i64 (1 * 2 ^ (min (Int.toNat (wrap .i64 ((wrap .i64 (a + 6)) - 8))) (IntKind.bits .i64)))) - 1))) : Int), wrap .i64 ((wrap .i64 (a + 6)) - 8), wrap .i64 (b + 1)) h4) else (Kn1 (c, d, f, wrap .i64 (BitVec.toNat (BitVec.ofInt (IntKind.bits .i64) (wrap .i64 (j * 2 ^ (min (Int.toNat 6) (IntKind.bits .i64)))) ||| BitVec.ofInt (IntKind.bits .i64) i) : Int), wrap .i64 (a + 6), wrap .i64 (b + 1)) h2)))) else (px Tryz.prog aV dX (.slice c d f) h fun v h5 => ∃ g, v = .string g ∧ Q (.string g) h5)
def mV (a : ByteArray) (Q : QT) (h : aA) : Prop :=
 aJ (fun (s : (Option Addr) × Nat × Nat × Int × Int × Int) h Kn => jE a ((a.size : Nat) : Int) Q s.1 s.2.1 s.2.2.1 s.2.2.2.1 s.2.2.2.2.1 s.2.2.2.2.2 h Kn) (none, 0, 0, 0, 0, 0) h
set_option maxRecDepth 100000 in
theorem sM (i : _) {Q : QT} {h : aA} (hk : mV i Q h) : aE Tryz.prog my #[.string i] h Q :=
 aW follows Tryz.func146 (Tryz.call146 _) rfl rfl [] [(10, fun e h => dS (e 0) fun i => dI .i64 (e 9) fun j => dL (e 3) fun a b c => dI .i64 (e 4) fun d => dI .i64 (e 5) fun f => dI .i64 (e 10) fun g => aJ (fun (s : (Option Addr) × Nat × Nat × Int × Int × Int) h Kn => jE i j Q s.1 s.2.1 s.2.2.1 s.2.2.2.1 s.2.2.2.2.1 s.2.2.2.2.2 h Kn) (a, b, c, d, f, g) h)]
 trivial
 ⟨⟨by kernel_rfl, fun e h he hk => by
 have F := Ag.nil (e := e)
 have ⟨i, F, hk⟩ := eS F hk
 have ⟨j, F, hk⟩ := eI F hk
 have ⟨a, b, c, F, hk⟩ := eL F hk
 have ⟨d, F, hk⟩ := eI F hk
 have ⟨f, F, hk⟩ := eI F hk
 have ⟨g, F, hk⟩ := eI F hk
 exact cA (s0 := (a, b, c, d, f, g)) follows (fun _ h => by cases h) he F (fun s => [(10, .int .i64 s.2.2.2.2.2), (5, .int .i64 s.2.2.2.2.1), (4, .int .i64 s.2.2.2.1), (3, .slice s.1 s.2.1 s.2.2.1)]) (by kernel_rfl) (F.take 4) hk (fun Kn1 e h => dL (e 3) fun a b c => dI .i64 (e 4) fun d => dI .i64 (e 5) fun f => dI .i64 (e 10) fun g => Kn1 (a, b, c, d, f, g) h) (fun Kn1 e h hk => by
  have F := Ag.nil (e := e)
  have ⟨a, b, c, F, hk⟩ := eL F hk
  have ⟨d, F, hk⟩ := eI F hk
  have ⟨f, F, hk⟩ := eI F hk
  have ⟨g, F, hk⟩ := eI F hk
  exact ⟨(a, b, c, d, f, g), F, hk⟩)
  (fun Kn1 => []) (fun Kn1 => [])
  (fun Kn1 => trivial)
  (fun Kn1 => trivial) (fun e s h Kn1 => by as_aux_lemma => kernel_rfl)⟩, trivial⟩ (by as_aux_lemma => kernel_rfl) hk
def io (p q : ByteArray) (b : Option Addr) (a c : Nat) (r : Option Addr) (s t : Nat) (j : ByteArray) (u : Option Addr) (w x : Nat) (y d : Int) (k : ByteArray) (Q : QT) (Kn2 : (Option Addr) × Nat × Nat × Int → aA → Prop) (h : aA) : Prop :=
 if (k.toList == (⟨#[46, 46]⟩ : ByteArray).toList) = true then (gL 1 b a c none (some (if (0 : Int) > (wrap .i64 (((a : Nat) : Int) - 1)) then (0 : Int) else (wrap .i64 (((a : Nat) : Int) - 1)))) none fun l m n => Kn2 (l, m, n, wrap .i64 (d + 1)) h) else (alV h (.cells #[.string j] dX) fun o h3 => dU Tryz.prog .append #[lN, lN] lN #[false, false] #[.slice b a c, .slice (some o) 1 1] h3 fun v h4 => ∃ f g i, v = .slice f g i ∧ Kn2 (f, g, i, wrap .i64 (d + 1)) h4)
def fB (a b : ByteArray) (Q : QT) (h : aA) : Prop :=
 ((b.size + a.size : Nat) : Int) ≤ IntKind.max .i64 ∧ Q (.string (b ++ a)) h
def bE (a b : ByteArray) (Q : QT) (h : aA) : Prop :=
 if (b.toList == (⟨#[]⟩ : ByteArray).toList) = true then (fB a (⟨#[47]⟩ : ByteArray) Q h) else (fB a b Q h)
def fI (c : ByteArray) (i : Option Addr) (g j : Nat) (k : Option Addr) (d m : Nat) (b : ByteArray) (Q : QT) (h : aA) : Prop :=
 aE Tryz.prog mC #[.slice i g j, .string (⟨#[47]⟩ : ByteArray)] h fun v h6 => ∃ a, v = .string a ∧ ((b.size + a.size : Nat) : Int) ≤ IntKind.max .i64 ∧ bR (wrap .i64 (((d : Nat) : Int) - 1)) d (nn k fun l => ldS h6 (l.add (((wrap .i64 (((d : Nat) : Int) - 1))).toNat * 1)) fun f => if (decide (((g : Nat) : Int) > 0)) = true then (if (f.toList == (⟨#[]⟩ : ByteArray).toList) = true then ((((b ++ a).size + (⟨#[47]⟩ : ByteArray).size : Nat) : Int) ≤ IntKind.max .i64 ∧ bE c ((b ++ a) ++ (⟨#[47]⟩ : ByteArray)) Q h6) else (if (f.toList == (⟨#[46]⟩ : ByteArray).toList) = true then ((((b ++ a).size + (⟨#[47]⟩ : ByteArray).size : Nat) : Int) ≤ IntKind.max .i64 ∧ bE c ((b ++ a) ++ (⟨#[47]⟩ : ByteArray)) Q h6) else (if (f.toList == (⟨#[46, 46]⟩ : ByteArray).toList) = true then ((((b ++ a).size + (⟨#[47]⟩ : ByteArray).size : Nat) : Int) ≤ IntKind.max .i64 ∧ bE c ((b ++ a) ++ (⟨#[47]⟩ : ByteArray)) Q h6) else (bE c (b ++ a) Q h6)))) else (bE c (b ++ a) Q h6))
def j9 (k a : ByteArray) (b : Option Addr) (c d : Nat) (f : Option Addr) (g i : Nat) (Q : QT) (h : aA) : Prop :=
 aE Tryz.prog lO #[.string k, .string (⟨#[47]⟩ : ByteArray)] h fun v h5 => ∃ j, v = .bool j ∧ if j = true then (fI a b c d f g i (⟨#[47]⟩ : ByteArray) Q h5) else (fI a b c d f g i (⟨#[]⟩ : ByteArray) Q h5)
def kh (g i : ByteArray) (j : Option Addr) (k l : Nat) (m : Option Addr) (n p : Nat) (o : Int) (Q : QT) (c : Option Addr) (d f : Nat) (a : Int) (h : aA) (Kn2 : (Option Addr) × Nat × Nat × Int → aA → Prop) : Prop :=
 if (decide (a < o)) = true then (bR a n (nn m fun q => ldS h (q.add (a.toNat * 1)) fun b => if (b.toList == (⟨#[]⟩ : ByteArray).toList) = true then (if (b.toList == (⟨#[]⟩ : ByteArray).toList) = true then (Kn2 (c, d, f, wrap .i64 (a + 1)) h) else (io g i c d f j k l b m n p o a b Q Kn2 h)) else (if (b.toList == (⟨#[46]⟩ : ByteArray).toList) = true then (Kn2 (c, d, f, wrap .i64 (a + 1)) h) else (io g i c d f j k l b m n p o a b Q Kn2 h)))) else (j9 g i c d f j k l Q h)
def fK (d f : ByteArray) (Q : QT) (h : aA) : Prop :=
 aE Tryz.prog oR #[.string d, .string (⟨#[47]⟩ : ByteArray)] h fun v h2 => ∃ b a c, v = .slice b a c ∧ aJ (fun (s : (Option Addr) × Nat × Nat × Int) h Kn => kh d f b a c b a c ((a : Nat) : Int) Q s.1 s.2.1 s.2.2.1 s.2.2.2 h Kn) (none, 0, 0, 0) h2
def oq (a : ByteArray) (Q : QT) (h : aA) : Prop :=
 aE Tryz.prog jv #[.string a, .int .u8 63] h fun v h1 => ∃ b, v = .int .i64 b ∧ if (decide (b ≥ 0)) = true then (pI a none (some b) fun c => pI a (some b) none fun d => fK c d Q h1) else (fK a (⟨#[]⟩ : ByteArray) Q h1)
set_option maxRecDepth 100000 in
theorem uB (q : _) {Q : QT} {h : aA} (hk : oq q Q h) : aE Tryz.prog np #[.string q] h Q :=
 aW follows Tryz.func147 (Tryz.call147 _) rfl rfl [(12, fun e h => dS (e 3) fun f => dS (e 4) fun a => fK f a Q h), (36, fun e h => dS (e 3) fun f => dS (e 4) fun a => dL (e 6) fun b c d => dL (e 7) fun g i j => j9 f a b c d g i j Q h), (42, fun e h => dS (e 4) fun a => dL (e 6) fun b c d => dL (e 7) fun g i j => dS (e 10) fun l => fI a b c d g i j l Q h), (50, fun e h => dS (e 4) fun a => dS (e 10) fun l => bE a l Q h), (54, fun e h => dS (e 4) fun a => dS (e 10) fun l => fB a l Q h)] [(18, fun e h => dS (e 3) fun f => dS (e 4) fun a => dL (e 7) fun g i j => dL (e 25) fun m n o => dI .i64 (e 26) fun p => dL (e 6) fun b c d => dI .i64 (e 27) fun k => aJ (fun (s : (Option Addr) × Nat × Nat × Int) h Kn => kh f a g i j m n o p Q s.1 s.2.1 s.2.2.1 s.2.2.2 h Kn) (b, c, d, k) h)]
 ⟨fun e h _ hk => by
 have F := Ag.nil (e := e)
 have ⟨f, F, hk⟩ := eS F hk
 have ⟨a, F, hk⟩ := eS F hk
 exact ii F (by as_aux_lemma => kernel_rfl) hk, fun e h _ hk => by
 have F := Ag.nil (e := e)
 have ⟨f, F, hk⟩ := eS F hk
 have ⟨a, F, hk⟩ := eS F hk
 have ⟨b, c, d, F, hk⟩ := eL F hk
 have ⟨g, i, j, F, hk⟩ := eL F hk
 exact ii F (by as_aux_lemma => kernel_rfl) hk, fun e h _ hk => by
 have F := Ag.nil (e := e)
 have ⟨a, F, hk⟩ := eS F hk
 have ⟨b, c, d, F, hk⟩ := eL F hk
 have ⟨g, i, j, F, hk⟩ := eL F hk
 have ⟨l, F, hk⟩ := eS F hk
 exact ii F (by as_aux_lemma => kernel_rfl) hk, fun e h _ hk => by
 have F := Ag.nil (e := e)
 have ⟨a, F, hk⟩ := eS F hk
 have ⟨l, F, hk⟩ := eS F hk
 exact ii F (by as_aux_lemma => kernel_rfl) hk, fun e h _ hk => by
 have F := Ag.nil (e := e)
 have ⟨a, F, hk⟩ := eS F hk
 have ⟨l, F, hk⟩ := eS F hk
 exact ii F (by as_aux_lemma => kernel_rfl) hk, trivial⟩
 ⟨⟨by kernel_rfl, fun e h he hk => by
 have F := Ag.nil (e := e)
 have ⟨f, F, hk⟩ := eS F hk
 have ⟨a, F, hk⟩ := eS F hk
 have ⟨g, i, j, F, hk⟩ := eL F hk
 have ⟨m, n, o, F, hk⟩ := eL F hk
 have ⟨p, F, hk⟩ := eI F hk
 have ⟨b, c, d, F, hk⟩ := eL F hk
 have ⟨k, F, hk⟩ := eI F hk
 exact cA (s0 := (b, c, d, k)) follows (fun _ h => by cases h) he F (fun s => [(27, .int .i64 s.2.2.2), (6, .slice s.1 s.2.1 s.2.2.1)]) (by kernel_rfl) (F.take 2) hk (fun Kn2 e h => dL (e 6) fun b c d => dI .i64 (e 27) fun k => Kn2 (b, c, d, k) h) (fun Kn2 e h hk => by
  have F := Ag.nil (e := e)
  have ⟨b, c, d, F, hk⟩ := eL F hk
  have ⟨k, F, hk⟩ := eI F hk
  exact ⟨(b, c, d, k), F, hk⟩)
  (fun Kn2 => [(31, fun e h => dS (e 3) fun f => dS (e 4) fun a => dL (e 6) fun b c d => dL (e 7) fun g i j => dS (e 9) fun r => dL (e 25) fun m n o => dI .i64 (e 26) fun p => dI .i64 (e 27) fun k => dS (e 31) fun t => io f a b c d g i j r m n o p k t Q Kn2 h)]) (fun Kn2 => [])
  (fun Kn2 => ⟨fun e h _ hk => by
 have F := Ag.nil (e := e)
 have ⟨f, F, hk⟩ := eS F hk
 have ⟨a, F, hk⟩ := eS F hk
 have ⟨b, c, d, F, hk⟩ := eL F hk
 have ⟨g, i, j, F, hk⟩ := eL F hk
 have ⟨r, F, hk⟩ := eS F hk
 have ⟨m, n, o, F, hk⟩ := eL F hk
 have ⟨p, F, hk⟩ := eI F hk
 have ⟨k, F, hk⟩ := eI F hk
 have ⟨t, F, hk⟩ := eS F hk
 exact ii F (by as_aux_lemma => kernel_rfl) hk, trivial⟩)
  (fun Kn2 => trivial) (fun e s h Kn2 => by as_aux_lemma => kernel_rfl)⟩, trivial⟩ (by as_aux_lemma => kernel_rfl) hk
def kO (m : ByteArray) (n : Int) (Q : QT) (b : Option Addr) (c d : Nat) (g a : Int) (h : aA) (Kn1 : (Option Addr) × Nat × Nat × Int × Int → aA → Prop) : Prop :=
 if (decide (a < n)) = true then (q6 m a fun o => aE Tryz.prog iQ #[.int .u8 o] h fun v h1 => ∃ f, v = .int .i64 f ∧ if (decide (f < 0)) = true then (Kn1 (b, c, d, g, wrap .i64 (a + 1)) h1) else (if (decide (g < 0)) = true then (Kn1 (b, c, d, f, wrap .i64 (a + 1)) h1) else (alV h1 (.cells #[.int .u8 (wrap .u8 (wrap .i64 ((wrap .i64 (16 * g)) + f)))] pb) fun p h2 => dU Tryz.prog .append #[aV, aV] aV #[false, false] #[.slice b c d, .slice (some p) 1 1] h2 fun v h3 => ∃ i j k, v = .slice i j k ∧ Kn1 (i, j, k, (-1), wrap .i64 (a + 1)) h3))) else (px Tryz.prog aV dX (.slice b c d) h fun v h4 => ∃ l, v = .string l ∧ Q (.string l) h4)
def pE (a : ByteArray) (Q : QT) (h : aA) : Prop :=
 aJ (fun (s : (Option Addr) × Nat × Nat × Int × Int) h Kn => kO a ((a.size : Nat) : Int) Q s.1 s.2.1 s.2.2.1 s.2.2.2.1 s.2.2.2.2 h Kn) (none, 0, 0, (-1), 0) h
set_option maxRecDepth 100000 in
theorem uS (g : _) {Q : QT} {h : aA} (hk : pE g Q h) : aE Tryz.prog ot #[.string g] h Q :=
 aW follows Tryz.func148 (Tryz.call148 _) rfl rfl [] [(10, fun e h => dS (e 0) fun g => dI .i64 (e 8) fun i => dL (e 3) fun a b c => dI .i64 (e 4) fun d => dI .i64 (e 9) fun f => aJ (fun (s : (Option Addr) × Nat × Nat × Int × Int) h Kn => kO g i Q s.1 s.2.1 s.2.2.1 s.2.2.2.1 s.2.2.2.2 h Kn) (a, b, c, d, f) h)]
 trivial
 ⟨⟨by kernel_rfl, fun e h he hk => by
 have F := Ag.nil (e := e)
 have ⟨g, F, hk⟩ := eS F hk
 have ⟨i, F, hk⟩ := eI F hk
 have ⟨a, b, c, F, hk⟩ := eL F hk
 have ⟨d, F, hk⟩ := eI F hk
 have ⟨f, F, hk⟩ := eI F hk
 exact cA (s0 := (a, b, c, d, f)) follows (fun _ h => by cases h) he F (fun s => [(9, .int .i64 s.2.2.2.2), (4, .int .i64 s.2.2.2.1), (3, .slice s.1 s.2.1 s.2.2.1)]) (by kernel_rfl) (F.take 3) hk (fun Kn1 e h => dL (e 3) fun a b c => dI .i64 (e 4) fun d => dI .i64 (e 9) fun f => Kn1 (a, b, c, d, f) h) (fun Kn1 e h hk => by
  have F := Ag.nil (e := e)
  have ⟨a, b, c, F, hk⟩ := eL F hk
  have ⟨d, F, hk⟩ := eI F hk
  have ⟨f, F, hk⟩ := eI F hk
  exact ⟨(a, b, c, d, f), F, hk⟩)
  (fun Kn1 => []) (fun Kn1 => [])
  (fun Kn1 => trivial)
  (fun Kn1 => trivial) (fun e s h Kn1 => by as_aux_lemma => kernel_rfl)⟩, trivial⟩ (by as_aux_lemma => kernel_rfl) hk
def ov (a : ByteArray) (Q : QT) (h : aA) : Prop :=
 Q (.string a) h
set_option maxRecDepth 100000 in
theorem uz (a : _) {Q : QT} {h : aA} (hk : ov a Q h) : aE Tryz.prog n9 #[.string a] h Q :=
 aW follows Tryz.func149 (Tryz.call149 _) rfl rfl [] []
 trivial
 trivial (by as_aux_lemma => kernel_rfl) hk
def vg (a : Int) (Q : QT) (h : aA) : Prop :=
 if (decide (a ≥ 97)) = true then (if (decide (a ≤ 122)) = true then (Q (.bool true) h) else (if (decide (a ≥ 65)) = true then (Q (.bool (decide (a ≤ 90))) h) else (Q (.bool false) h))) else (if (decide (a ≥ 65)) = true then (Q (.bool (decide (a ≤ 90))) h) else (Q (.bool false) h))
set_option maxRecDepth 100000 in
theorem za (a : _) {Q : QT} {h : aA} (hk : vg a Q h) : aE Tryz.prog mF #[.int .u8 a] h Q :=
 aW follows Tryz.func150 (Tryz.call150 _) rfl rfl [] []
 trivial
 trivial (by as_aux_lemma => kernel_rfl) hk
def uX (a : Int) (Q : QT) (h : aA) : Prop :=
 aE Tryz.prog mF #[.int .u8 a] h fun v h1 => ∃ b, v = .bool b ∧ if b = true then (Q (.bool true) h1) else (aE Tryz.prog qP #[.int .u8 a] h1 fun v h2 => ∃ c, v = .bool c ∧ if c = true then (Q (.bool true) h2) else (Q (.bool (a == 95)) h2))
set_option maxRecDepth 100000 in
theorem yW (a : _) {Q : QT} {h : aA} (hk : uX a Q h) : aE Tryz.prog pO #[.int .u8 a] h Q :=
 aW follows Tryz.func151 (Tryz.call151 _) rfl rfl [] []
 trivial
 trivial (by as_aux_lemma => kernel_rfl) hk
def xv (b : Bool) (c : ByteArray) (d f : Int) (Q : QT) (h : aA) : Prop :=
 alV h (.cells #[.bool b, .string c, .int .i64 d, .int .i64 f] nK) fun a h1 => ldS h1 (a.add 1) fun g => if (!(g.toList == (⟨#[]⟩ : ByteArray).toList)) = true then (Q (.bool true) h1) else (ldI h1 (a.add 2) .i64 fun i => if (decide (i ≥ 0)) = true then (ldI h1 (a.add 2) .i64 fun j => ldI h1 (a.add 3) .i64 fun k => if (decide (j ≤ k)) = true then (ldI h1 (a.add 3) .i64 fun l => Q (.bool (decide (l ≤ 65535))) h1) else (Q (.bool false) h1)) else (Q (.bool false) h1))
set_option maxRecDepth 100000 in
theorem B4 (a b c d : _) {Q : QT} {h : aA} (hk : xv a b c d Q h) : aE Tryz.prog rD #[.agg #[.bool a, .string b, .int .i64 c, .int .i64 d]] h Q :=
 aW follows Tryz.func152 (Tryz.call152 _) rfl rfl [] []
 trivial
 trivial (by as_aux_lemma => kernel_rfl) hk
def vR (b : Bool) (c d : Int) (Q : QT) (h : aA) : Prop :=
 alV h (.cells #[.bool b, .int .u64 c, .int .u64 d] cZ) fun a h1 => ldB h1 a fun f => if f = true then (Q (.bool true) h1) else (ldI h1 (a.add 1) .u64 fun g => if (g == 0) = true then (ldI h1 (a.add 2) .u64 fun i => Q (.bool (decide (i < 4294967296))) h1) else (Q (.bool false) h1))
set_option maxRecDepth 100000 in
theorem AD (a b c : _) {Q : QT} {h : aA} (hk : vR a b c Q h) : aE Tryz.prog qJ #[.agg #[.bool a, .int .u64 b, .int .u64 c]] h Q :=
 aW follows Tryz.func153 (Tryz.call153 _) rfl rfl [] []
 trivial
 trivial (by as_aux_lemma => kernel_rfl) hk
def wg (a : Bool) (b c : Int) (Q : QT) (h : aA) : Prop :=
 alV h (.cells #[.bool a, .int .u64 b, .int .u64 c] cZ) fun d h1 => ldB h1 d fun f => if f = true then (Q (.int .i64 128) h1) else (Q (.int .i64 32) h1)
set_option maxRecDepth 100000 in
theorem AA (a b c : _) {Q : QT} {h : aA} (hk : wg a b c Q h) : aE Tryz.prog nM #[.agg #[.bool a, .int .u64 b, .int .u64 c]] h Q :=
 aW follows Tryz.func154 (Tryz.call154 _) rfl rfl [] []
 trivial
 trivial (by as_aux_lemma => kernel_rfl) hk
def rT (b a : Addr) (Q : QT) (h : aA) : Prop :=
 ldB h b fun c => ldI h (b.add 1) .u64 fun d => ldI h (b.add 2) .u64 fun f => stN h a [.bool c, .int .u64 d, .int .u64 f] 0 fun h8 => ldB h8 a fun g => ldI h8 (a.add 1) .u64 fun i => ldI h8 (a.add 2) .u64 fun j => Q (.agg #[.bool g, .int .u64 i, .int .u64 j]) h8
def rG (f : Bool) (a g : Addr) (Q : QT) (b : Int) (h : aA) (Kn1 : Int → aA → Prop) : Prop :=
 ldB h a fun i => ldI h (a.add 1) .u64 fun j => ldI h (a.add 2) .u64 fun k => aE Tryz.prog nM #[.agg #[.bool i, .int .u64 j, .int .u64 k]] h fun v h3 => ∃ c, v = .int .i64 c ∧ if (decide (b < c)) = true then (ldB h3 a fun l => ldI h3 (a.add 1) .u64 fun m => ldI h3 (a.add 2) .u64 fun n => aE Tryz.prog tm #[.agg #[.bool l, .int .u64 m, .int .u64 n], .int .i64 b] h3 fun v h4 => ∃ d, v = .bool d ∧ if (d == f) = true then (Kn1 (wrap .i64 (b + 1)) h4) else (ldB h4 a fun o => if (!o) = true then (ldI h4 (a.add 2) .u64 fun p => 0 ≤ (wrap .u64 (wrap .i64 (31 - b))) ∧ st1 h4 (a.add 2) (.int .u64 (wrap .u64 (BitVec.toNat (BitVec.ofInt (IntKind.bits .u64) p ^^^ BitVec.ofInt (IntKind.bits .u64) (wrap .u64 (1 * 2 ^ (min (Int.toNat (wrap .u64 (wrap .i64 (31 - b)))) (IntKind.bits .u64))))) : Int))) fun h5 => Kn1 (wrap .i64 (b + 1)) h5) else (if (decide (b < 64)) = true then (ldI h4 (a.add 1) .u64 fun q => 0 ≤ (wrap .u64 (wrap .i64 (63 - b))) ∧ st1 h4 (a.add 1) (.int .u64 (wrap .u64 (BitVec.toNat (BitVec.ofInt (IntKind.bits .u64) q ^^^ BitVec.ofInt (IntKind.bits .u64) (wrap .u64 (1 * 2 ^ (min (Int.toNat (wrap .u64 (wrap .i64 (63 - b)))) (IntKind.bits .u64))))) : Int))) fun h6 => Kn1 (wrap .i64 (b + 1)) h6) else (ldI h4 (a.add 2) .u64 fun r => 0 ≤ (wrap .u64 (wrap .i64 (127 - b))) ∧ st1 h4 (a.add 2) (.int .u64 (wrap .u64 (BitVec.toNat (BitVec.ofInt (IntKind.bits .u64) r ^^^ BitVec.ofInt (IntKind.bits .u64) (wrap .u64 (1 * 2 ^ (min (Int.toNat (wrap .u64 (wrap .i64 (127 - b)))) (IntKind.bits .u64))))) : Int))) fun h7 => Kn1 (wrap .i64 (b + 1)) h7)))) else (rT a g Q h3)
def wI (a : Bool) (b c d : Int) (f : Bool) (Q : QT) (h : aA) : Prop :=
 alV h (.cells #[.bool a, .int .u64 b, .int .u64 c] cZ) fun g h1 => alV h1 (.cells #[.bool false, .int .u64 0, .int .u64 0] cZ) fun i h2 => aJ (fun (s : Int) h Kn => rG f g i Q s h Kn) d h2
set_option maxRecDepth 100000 in
theorem Cm (f g i j b : _) {Q : QT} {h : aA} (hk : wI f g i j b Q h) : aE Tryz.prog rO #[.agg #[.bool f, .int .u64 g, .int .u64 i], .int .i64 j, .bool b] h Q :=
 aW follows Tryz.func155 (Tryz.call155 _) rfl rfl [(22, fun e h => dA (e 3) fun c => dA (e 6) fun d => rT c d Q h)] [(6, fun e h => dB (e 2) fun b => dA (e 3) fun c => dA (e 6) fun d => dI .i64 (e 7) fun a => aJ (fun (s : Int) h Kn => rG b c d Q s h Kn) a h)]
 ⟨fun e h _ hk => by
 have F := Ag.nil (e := e)
 have ⟨c, F, hk⟩ := eA F hk
 have ⟨d, F, hk⟩ := eA F hk
 exact ii F (by as_aux_lemma => kernel_rfl) hk, trivial⟩
 ⟨⟨by kernel_rfl, fun e h he hk => by
 have F := Ag.nil (e := e)
 have ⟨b, F, hk⟩ := eB F hk
 have ⟨c, F, hk⟩ := eA F hk
 have ⟨d, F, hk⟩ := eA F hk
 have ⟨a, F, hk⟩ := eI F hk
 exact cA (s0 := a) follows (fun _ h => by cases h) he F (fun s => [(7, .int .i64 s)]) (by kernel_rfl) (F.take 1) hk (fun Kn1 e h => dI .i64 (e 7) fun a => Kn1 a h) (fun Kn1 e h hk => by
  have F := Ag.nil (e := e)
  have ⟨a, F, hk⟩ := eI F hk
  exact ⟨a, F, hk⟩)
  (fun Kn1 => []) (fun Kn1 => [])
  (fun Kn1 => trivial)
  (fun Kn1 => trivial) (fun e s h Kn1 => by as_aux_lemma => kernel_rfl)⟩, trivial⟩ (by as_aux_lemma => kernel_rfl) hk
def gM (d : ByteArray) (i : Addr) (a f j b : Int) (Q : QT) (Kn1 : Int × Int → aA → Prop) (h : aA) : Prop :=
 q6 d f fun g => aE Tryz.prog kZ #[.int .u8 g] h fun v h3 => ∃ c, v = .bool c ∧ if c = true then (Kn1 (wrap .i64 (a - 8), wrap .i64 (b + 1)) h3) else (Kn1 (a, wrap .i64 (b + 1)) h3)
def lP (a : Int) (Q : QT) (h : aA) : Prop :=
 Q (.int .i64 (if (1 : Int) > a then (1 : Int) else a)) h
def lB (b : ByteArray) (c : Addr) (d : Int) (Q : QT) (f a : Int) (h : aA) (Kn1 : Int × Int → aA → Prop) : Prop :=
 if (decide (a < d)) = true then (q6 b a fun g => bR g 256 (ldB h (c.add (g.toNat * 1)) fun j => if (!j) = true then (q6 b a fun i => bR i 256 (st1 h (c.add (i.toNat * 1)) (.bool true) fun h2 => gM b c (wrap .i64 (f + 16)) a d a Q Kn1 h2)) else (gM b c f a d a Q Kn1 h))) else (lP f Q h)
def p9 (a : ByteArray) (Q : QT) (h : aA) : Prop :=
 if (a.toList == (⟨#[]⟩ : ByteArray).toList) = true then (Q (.int .i64 0) h) else (alV h (.cells #[.bool false, .bool false, .bool false, .bool false, .bool false, .bool false, .bool false, .bool false, .bool false, .bool false, .bool false, .bool false, .bool false, .bool false, .bool false, .bool false, .bool false, .bool false, .bool false, .bool false, .bool false, .bool false, .bool false, .bool false, .bool false, .bool false, .bool false, .bool false, .bool false, .bool false, .bool false, .bool false, .bool false, .bool false, .bool false, .bool false, .bool false, .bool false, .bool false, .bool false, .bool false, .bool false, .bool false, .bool false, .bool false, .bool false, .bool false, .bool false, .bool false, .bool false, .bool false, .bool false, .bool false, .bool false, .bool false, .bool false, .bool false, .bool false, .bool false, .bool false, .bool false, .bool false, .bool false, .bool false, .bool false, .bool false, .bool false, .bool false, .bool false, .bool false, .bool false, .bool false, .bool false, .bool false, .bool false, .bool false, .bool false, .bool false, .bool false, .bool false, .bool false, .bool false, .bool false, .bool false, .bool false, .bool false, .bool false, .bool false, .bool false, .bool false, .bool false, .bool false, .bool false, .bool false, .bool false, .bool false, .bool false, .bool false, .bool false, .bool false, .bool false, .bool false, .bool false, .bool false, .bool false, .bool false, .bool false, .bool false, .bool false, .bool false, .bool false, .bool false, .bool false, .bool false, .bool false, .bool false, .bool false, .bool false, .bool false, .bool false, .bool false, .bool false, .bool false, .bool false, .bool false, .bool false, .bool false, .bool false, .bool false, .bool false, .bool false, .bool false, .bool false, .bool false, .bool false, .bool false, .bool false, .bool false, .bool false, .bool false, .bool false, .bool false, .bool false, .bool false, .bool false, .bool false, .bool false, .bool false, .bool false, .bool false, .bool false, .bool false, .bool false, .bool false, .bool false, .bool false, .bool false, .bool false, .bool false, .bool false, .bool false, .bool false, .bool false, .bool false, .bool false, .bool false, .bool false, .bool false, .bool false, .bool false, .bool false, .bool false, .bool false, .bool false, .bool false, .bool false, .bool false, .bool false, .bool false, .bool false, .bool false, .bool false, .bool false, .bool false, .bool false, .bool false, .bool false, .bool false, .bool false, .bool false, .bool false, .bool false, .bool false, .bool false, .bool false, .bool false, .bool false, .bool false, .bool false, .bool false, .bool false, .bool false, .bool false, .bool false, .bool false, .bool false, .bool false, .bool false, .bool false, .bool false, .bool false, .bool false, .bool false, .bool false, .bool false, .bool false, .bool false, .bool false, .bool false, .bool false, .bool false, .bool false, .bool false, .bool false, .bool false, .bool false, .bool false, .bool false, .bool false, .bool false, .bool false, .bool false, .bool false, .bool false, .bool false, .bool false, .bool false, .bool false, .bool false, .bool false, .bool false, .bool false, .bool false, .bool false, .bool false, .bool false, .bool false, .bool false, .bool false, .bool false, .bool false, .bool false, .bool false, .bool false, .bool false, .bool false] qH) fun b h1 => aJ (fun (s : Int × Int) h Kn => lB a b ((a.size : Nat) : Int) Q s.1 s.2 h Kn) (((a.size : Nat) : Int), 0) h1)
set_option maxRecDepth 100000 in
theorem vO (c : _) {Q : QT} {h : aA} (hk : p9 c Q h) : aE Tryz.prog ju #[.string c] h Q :=
 aW follows Tryz.func156 (Tryz.call156 _) rfl rfl [(30, fun e h => dI .i64 (e 4) fun a => lP a Q h)] [(14, fun e h => dS (e 0) fun c => dA (e 3) fun d => dI .i64 (e 11) fun f => dI .i64 (e 4) fun a => dI .i64 (e 12) fun b => aJ (fun (s : Int × Int) h Kn => lB c d f Q s.1 s.2 h Kn) (a, b) h)]
 ⟨fun e h _ hk => by
 have F := Ag.nil (e := e)
 have ⟨a, F, hk⟩ := eI F hk
 exact ii F (by as_aux_lemma => kernel_rfl) hk, trivial⟩
 ⟨⟨by kernel_rfl, fun e h he hk => by
 have F := Ag.nil (e := e)
 have ⟨c, F, hk⟩ := eS F hk
 have ⟨d, F, hk⟩ := eA F hk
 have ⟨f, F, hk⟩ := eI F hk
 have ⟨a, F, hk⟩ := eI F hk
 have ⟨b, F, hk⟩ := eI F hk
 exact cA (s0 := (a, b)) follows (fun _ h => by cases h) he F (fun s => [(12, .int .i64 s.2), (4, .int .i64 s.1)]) (by kernel_rfl) (F.take 2) hk (fun Kn1 e h => dI .i64 (e 4) fun a => dI .i64 (e 12) fun b => Kn1 (a, b) h) (fun Kn1 e h hk => by
  have F := Ag.nil (e := e)
  have ⟨a, F, hk⟩ := eI F hk
  have ⟨b, F, hk⟩ := eI F hk
  exact ⟨(a, b), F, hk⟩)
  (fun Kn1 => [(24, fun e h => dS (e 0) fun c => dA (e 3) fun d => dI .i64 (e 4) fun a => dI .i64 (e 5) fun g => dI .i64 (e 11) fun f => dI .i64 (e 12) fun b => gM c d a g f b Q Kn1 h)]) (fun Kn1 => [])
  (fun Kn1 => ⟨fun e h _ hk => by
 have F := Ag.nil (e := e)
 have ⟨c, F, hk⟩ := eS F hk
 have ⟨d, F, hk⟩ := eA F hk
 have ⟨a, F, hk⟩ := eI F hk
 have ⟨g, F, hk⟩ := eI F hk
 have ⟨f, F, hk⟩ := eI F hk
 have ⟨b, F, hk⟩ := eI F hk
 exact ii F (by as_aux_lemma => kernel_rfl) hk, trivial⟩)
  (fun Kn1 => trivial) (fun e s h Kn1 => by as_aux_lemma => kernel_rfl)⟩, trivial⟩ (by as_aux_lemma => kernel_rfl) hk
def kD (a : ByteArray) (Q : QT) (h : aA) : Prop :=
 if (((a.size : Nat) : Int) == 0) = true then (Q (.string (⟨#[]⟩ : ByteArray)) h) else (yl Tryz.prog aV (.int .i64 ((a.size : Nat) : Int)) (.int .i64 ((a.size : Nat) : Int)) h fun v h1 => ∃ c b d, v = .slice c b d ∧ dU Tryz.prog .copy #[aV, dX] mn #[false, false] #[.slice c b d, .string a] h1 fun v h2 => ∃ g, v = .int .i64 g ∧ bR (0 : Int) b (nn c fun i => dU Tryz.prog .unsafeString #[FX, mn] dX #[false, false] #[.pointer (some (i.add (((0 : Int)).toNat * 1))), .int .i64 ((b : Nat) : Int)] h2 fun v h3 => ∃ f, v = .string f ∧ Q (.string f) h3))
set_option maxRecDepth 100000 in
theorem pL (a : _) {Q : QT} {h : aA} (hk : kD a Q h) : aE Tryz.prog gP #[.string a] h Q :=
 aW follows Tryz.func157 (Tryz.call157 _) rfl rfl [] []
 trivial
 trivial (by as_aux_lemma => kernel_rfl) hk
def cT (d : Option Addr) (f p : Nat) (g : Value) (i : Int) (Q : QT) (a : Int) (h : aA) (Kn1 : Int → aA → Prop) : Prop :=
 if (decide (a < i)) = true then (bR a f (nn d fun b => ldB h (b.add (a.toNat * 6)) fun j => ldI h ((b.add (a.toNat * 6)).add 1) .u64 fun k => ldI h ((b.add (a.toNat * 6)).add 2) .u64 fun l => ldB h ((b.add (a.toNat * 6)).add 3) fun m => ldI h ((b.add (a.toNat * 6)).add 4) .u64 fun n => ldI h ((b.add (a.toNat * 6)).add 5) .u64 fun o => mw Tryz.prog g #[.agg #[.bool j, .int .u64 k, .int .u64 l, .bool m, .int .u64 n, .int .u64 o]] h fun v h1 => ∃ c, v = .bool c ∧ if c = true then (Q (.int .i64 a) h1) else (Kn1 (wrap .i64 (a + 1)) h1))) else (Q (.int .i64 (-1)) h)
def gS (b : Option Addr) (a c : Nat) (d : Value) (Q : QT) (h : aA) : Prop :=
 aJ (fun (s : Int) h Kn => cT b a c d ((a : Nat) : Int) Q s h Kn) 0 h
set_option maxRecDepth 100000 in
theorem lH (b c d f : _) {Q : QT} {h : aA} (hk : gS b c d f Q h) : aE Tryz.prog gG #[.slice b c d, f] h Q :=
 aW follows Tryz.func160 (Tryz.call160 _) rfl rfl [] [(6, fun e h => dL (e 0) fun b c d => dV (e 1) fun f => dI .i64 (e 7) fun g => dI .i64 (e 8) fun a => aJ (fun (s : Int) h Kn => cT b c d f g Q s h Kn) a h)]
 trivial
 ⟨⟨by kernel_rfl, fun e h he hk => by
 have F := Ag.nil (e := e)
 have ⟨b, c, d, F, hk⟩ := eL F hk
 have ⟨f, F, hk⟩ := eV F hk
 have ⟨g, F, hk⟩ := eI F hk
 have ⟨a, F, hk⟩ := eI F hk
 exact cA (s0 := a) follows (fun _ h => by cases h) he F (fun s => [(8, .int .i64 s)]) (by kernel_rfl) (F.take 1) hk (fun Kn1 e h => dI .i64 (e 8) fun a => Kn1 a h) (fun Kn1 e h hk => by
  have F := Ag.nil (e := e)
  have ⟨a, F, hk⟩ := eI F hk
  exact ⟨a, F, hk⟩)
  (fun Kn1 => []) (fun Kn1 => [])
  (fun Kn1 => trivial)
  (fun Kn1 => trivial) (fun e s h Kn1 => by as_aux_lemma => kernel_rfl)⟩, trivial⟩ (by as_aux_lemma => kernel_rfl) hk
def dQ (d : Option Addr) (f l : Nat) (g : Value) (i : Int) (Q : QT) (a : Int) (h : aA) (Kn1 : Int → aA → Prop) : Prop :=
 if (decide (a < i)) = true then (bR a f (nn d fun b => ldI h (b.add (a.toNat * 2)) .i64 fun j => ldI h ((b.add (a.toNat * 2)).add 1) .i64 fun k => mw Tryz.prog g #[.agg #[.int .i64 j, .int .i64 k]] h fun v h1 => ∃ c, v = .bool c ∧ if c = true then (Q (.int .i64 a) h1) else (Kn1 (wrap .i64 (a + 1)) h1))) else (Q (.int .i64 (-1)) h)
def ik (b : Option Addr) (a c : Nat) (d : Value) (Q : QT) (h : aA) : Prop :=
 aJ (fun (s : Int) h Kn => dQ b a c d ((a : Nat) : Int) Q s h Kn) 0 h
set_option maxRecDepth 100000 in
theorem mf (b c d f : _) {Q : QT} {h : aA} (hk : ik b c d f Q h) : aE Tryz.prog gU #[.slice b c d, f] h Q :=
 aW follows Tryz.func161 (Tryz.call161 _) rfl rfl [] [(6, fun e h => dL (e 0) fun b c d => dV (e 1) fun f => dI .i64 (e 7) fun g => dI .i64 (e 8) fun a => aJ (fun (s : Int) h Kn => dQ b c d f g Q s h Kn) a h)]
 trivial
 ⟨⟨by kernel_rfl, fun e h he hk => by
 have F := Ag.nil (e := e)
 have ⟨b, c, d, F, hk⟩ := eL F hk
 have ⟨f, F, hk⟩ := eV F hk
 have ⟨g, F, hk⟩ := eI F hk
 have ⟨a, F, hk⟩ := eI F hk
 exact cA (s0 := a) follows (fun _ h => by cases h) he F (fun s => [(8, .int .i64 s)]) (by kernel_rfl) (F.take 1) hk (fun Kn1 e h => dI .i64 (e 8) fun a => Kn1 a h) (fun Kn1 e h hk => by
  have F := Ag.nil (e := e)
  have ⟨a, F, hk⟩ := eI F hk
  exact ⟨a, F, hk⟩)
  (fun Kn1 => []) (fun Kn1 => [])
  (fun Kn1 => trivial)
  (fun Kn1 => trivial) (fun e s h Kn1 => by as_aux_lemma => kernel_rfl)⟩, trivial⟩ (by as_aux_lemma => kernel_rfl) hk
def uk (a : Int) (Q : QT) (h : aA) : Prop :=
 if (decide (a ≥ 65)) = true then (if (decide (a ≤ 90)) = true then (Q (.int .u8 (wrap .u8 ((wrap .u8 (a + 97)) - 65))) h) else (Q (.int .u8 a) h)) else (Q (.int .u8 a) h)
set_option maxRecDepth 100000 in
theorem yx (a : _) {Q : QT} {h : aA} (hk : uk a Q h) : aE Tryz.prog lS #[.int .u8 a] h Q :=
 aW follows Tryz.func173 (Tryz.call173 _) rfl rfl [] []
 trivial
 trivial (by as_aux_lemma => kernel_rfl) hk
def ki (a : Int) (Q : QT) (h : aA) : Prop :=
 if (decide (97 ≤ a)) = true then (if (decide (a ≤ 102)) = true then (Q (.int .i64 (wrap .i64 ((wrap .i64 (wrap .u8 (a - 97))) + 10))) h) else (if (decide (65 ≤ a)) = true then (if (decide (a ≤ 70)) = true then (Q (.int .i64 (wrap .i64 ((wrap .i64 (wrap .u8 (a - 65))) + 10))) h) else (Q (.int .i64 (-1)) h)) else (Q (.int .i64 (-1)) h))) else (if (decide (65 ≤ a)) = true then (if (decide (a ≤ 70)) = true then (Q (.int .i64 (wrap .i64 ((wrap .i64 (wrap .u8 (a - 65))) + 10))) h) else (Q (.int .i64 (-1)) h)) else (Q (.int .i64 (-1)) h))
def rB (a : Int) (Q : QT) (h : aA) : Prop :=
 if (decide (48 ≤ a)) = true then (if (decide (a ≤ 57)) = true then (Q (.int .i64 (wrap .i64 (wrap .u8 (a - 48)))) h) else (ki a Q h)) else (ki a Q h)
set_option maxRecDepth 100000 in
theorem wV (a : _) {Q : QT} {h : aA} (hk : rB a Q h) : aE Tryz.prog iQ #[.int .u8 a] h Q :=
 aW follows Tryz.func174 (Tryz.call174 _) rfl rfl [(9, fun e h => dI .u8 (e 0) fun a => ki a Q h)] []
 ⟨fun e h _ hk => by
 have F := Ag.nil (e := e)
 have ⟨a, F, hk⟩ := eI F hk
 exact ii F (by as_aux_lemma => kernel_rfl) hk, trivial⟩
 trivial (by as_aux_lemma => kernel_rfl) hk
def p7 (b : ByteArray) (c : Int) (Q : QT) (h : aA) : Prop :=
 aE Tryz.prog jc #[.string b, .int .u8 c] h fun v h1 => ∃ a, v = .int .i64 a ∧ Q (.int .i64 a) h1
set_option maxRecDepth 100000 in
theorem vM (a b : _) {Q : QT} {h : aA} (hk : p7 a b Q h) : aE Tryz.prog jv #[.string a, .int .u8 b] h Q :=
 aW follows Tryz.func175 (Tryz.call175 _) rfl rfl [] []
 trivial
 trivial (by as_aux_lemma => kernel_rfl) hk
def tR (d f : ByteArray) (Q : QT) (h : aA) : Prop :=
 aE Tryz.prog vJ #[.string d, .string f, .int .i64 0, .int .i64 (-1)] h fun v h1 => ∃ a b c, v = .slice a b c ∧ Q (.slice a b c) h1
set_option maxRecDepth 100000 in
theorem yG (a b : _) {Q : QT} {h : aA} (hk : tR a b Q h) : aE Tryz.prog oR #[.string a, .string b] h Q :=
 aW follows Tryz.func176 (Tryz.call176 _) rfl rfl [] []
 trivial
 trivial (by as_aux_lemma => kernel_rfl) hk
def qb (b c : ByteArray) (Q : QT) (h : aA) : Prop :=
 aE Tryz.prog eX #[.string b, .string c] h fun v h1 => ∃ a, v = .bool a ∧ Q (.bool a) h1
set_option maxRecDepth 100000 in
theorem vG (a b : _) {Q : QT} {h : aA} (hk : qb a b Q h) : aE Tryz.prog lO #[.string a, .string b] h Q :=
 aW follows Tryz.func177 (Tryz.call177 _) rfl rfl [] []
 trivial
 trivial (by as_aux_lemma => kernel_rfl) hk
def uo (d : Option Addr) (f g : Nat) (i : ByteArray) (a : Int) (b : ByteArray) (j : Option Addr) (k l : Nat) (m c : Int) (Q : QT) (Kn3 : Int × Int → aA → Prop) (h : aA) : Prop :=
 Kn3 (wrap .i64 (a + ((b.size : Nat) : Int)), wrap .i64 (c + 1)) h
def tX (b : Addr) (Q : QT) (h : aA) : Prop :=
 aE Tryz.prog q8 #[.pointer (some b)] h fun v h6 => ∃ a, v = .string a ∧ Q (.string a) h6
def tW (c : ByteArray) (b : Addr) (d : Option Addr) (f o : Nat) (g : Int) (Q : QT) (a : Int) (h : aA) (Kn6 : Int → aA → Prop) : Prop :=
 if (decide (a < g)) = true then (bR a f (nn d fun i => ldS h (i.add (a.toNat * 1)) fun j => aE Tryz.prog gD #[.pointer (some b), .string c] h fun v h4 => ∃ k l, v = .tuple #[.int .i64 k, l] ∧ aE Tryz.prog gD #[.pointer (some b), .string j] h4 fun v h5 => ∃ m n, v = .tuple #[.int .i64 m, n] ∧ Kn6 (wrap .i64 (a + 1)) h5)) else (tX b Q h)
def um (b : Option Addr) (c f : Nat) (g : ByteArray) (i : Int) (Q : QT) (h : aA) : Prop :=
 alV h (.cells #[.pointer none, .slice none 0 0] xa) fun a h1 => aE Tryz.prog sx #[.pointer (some a), .int .i64 i] h1 fun v h2 => v = .tuple #[] ∧ bR (0 : Int) c (nn b fun j => ldS h2 (j.add (((0 : Int)).toNat * 1)) fun k => aE Tryz.prog gD #[.pointer (some a), .string k] h2 fun v h3 => ∃ l m, v = .tuple #[.int .i64 l, m] ∧ gL 1 b c f (some (1 : Int)) none none fun n d o => aJ (fun (s : Int) h Kn => tW g a n d o ((d : Nat) : Int) Q s h Kn) 0 h3)
def uj (c : Option Addr) (d f : Nat) (g : ByteArray) (i : Option Addr) (j m : Nat) (k : Int) (Q : QT) (b a : Int) (h : aA) (Kn3 : Int × Int → aA → Prop) : Prop :=
 if (decide (a < k)) = true then (bR a j (nn i fun n => ldS h (n.add (a.toNat * 1)) fun l => if (decide (((l.size : Nat) : Int) > (wrap .i64 (9223372036854775807 - b)))) = true then (False) else (uo c d f g b l i j m k a Q Kn3 h))) else (um c d f g b Q h)
def pQ (b : Option Addr) (a c : Nat) (d : ByteArray) (f : Int) (Q : QT) (h : aA) : Prop :=
 aJ (fun (s : Int × Int) h Kn => uj b a c d b a c ((a : Nat) : Int) Q s.1 s.2 h Kn) (f, 0) h
def ue (c : Option Addr) (a d : Nat) (b : ByteArray) (f : Int) (Q : QT) (h : aA) : Prop :=
 pQ c a d b (wrap .i64 (f + (wrap .i64 (((b.size : Nat) : Int) * (wrap .i64 (((a : Nat) : Int) - 1)))))) Q h
def uF (c : Option Addr) (a d : Nat) (b : ByteArray) (Q : QT) (h : aA) : Prop :=
 if (((a : Nat) : Int) == 0) = true then (Q (.string (⟨#[]⟩ : ByteArray)) h) else (if (((a : Nat) : Int) == 1) = true then (bR (0 : Int) a (nn c fun f => ldS h (f.add (((0 : Int)).toNat * 1)) fun g => Q (.string g) h)) else (if (decide (((b.size : Nat) : Int) > 0)) = true then ((wrap .i64 (((a : Nat) : Int) - 1)) ≠ 0 ∧ if (decide (((b.size : Nat) : Int) ≥ (wrap .i64 (Int.tdiv 9223372036854775807 (wrap .i64 (((a : Nat) : Int) - 1)))))) = true then (False) else (ue c a d b 0 Q h)) else (pQ c a d b 0 Q h)))
set_option maxRecDepth 100000 in
theorem zk (c d f a : _) {Q : QT} {h : aA} (hk : uF c d f a Q h) : aE Tryz.prog mC #[.slice c d f, .string a] h Q :=
 aW follows Tryz.func178 (Tryz.call178 _) rfl rfl [(22, fun e h => dL (e 0) fun c d f => dS (e 1) fun a => dI .i64 (e 5) fun b => ue c d f a b Q h), (24, fun e h => dL (e 0) fun c d f => dS (e 1) fun a => dI .i64 (e 5) fun b => pQ c d f a b Q h), (38, fun e h => dL (e 0) fun c d f => dS (e 1) fun a => dI .i64 (e 5) fun b => um c d f a b Q h), (56, fun e h => dA (e 8) fun j => tX j Q h)] [(26, fun e h => dL (e 0) fun c d f => dS (e 1) fun a => dL (e 39) fun k l m => dI .i64 (e 40) fun n => dI .i64 (e 5) fun b => dI .i64 (e 41) fun g => aJ (fun (s : Int × Int) h Kn => uj c d f a k l m n Q s.1 s.2 h Kn) (b, g) h), (46, fun e h => dS (e 1) fun a => dA (e 8) fun j => dL (e 63) fun o p q => dI .i64 (e 64) fun r => dI .i64 (e 65) fun i => aJ (fun (s : Int) h Kn => tW a j o p q r Q s h Kn) i h)]
 ⟨fun e h _ hk => by
 have F := Ag.nil (e := e)
 have ⟨c, d, f, F, hk⟩ := eL F hk
 have ⟨a, F, hk⟩ := eS F hk
 have ⟨b, F, hk⟩ := eI F hk
 exact ii F (by as_aux_lemma => kernel_rfl) hk, fun e h _ hk => by
 have F := Ag.nil (e := e)
 have ⟨c, d, f, F, hk⟩ := eL F hk
 have ⟨a, F, hk⟩ := eS F hk
 have ⟨b, F, hk⟩ := eI F hk
 exact ii F (by as_aux_lemma => kernel_rfl) hk, fun e h _ hk => by
 have F := Ag.nil (e := e)
 have ⟨c, d, f, F, hk⟩ := eL F hk
 have ⟨a, F, hk⟩ := eS F hk
 have ⟨b, F, hk⟩ := eI F hk
 exact ii F (by as_aux_lemma => kernel_rfl) hk, fun e h _ hk => by
 have F := Ag.nil (e := e)
 have ⟨j, F, hk⟩ := eA F hk
 exact ii F (by as_aux_lemma => kernel_rfl) hk, trivial⟩
 ⟨⟨by kernel_rfl, fun e h he hk => by
 have F := Ag.nil (e := e)
 have ⟨c, d, f, F, hk⟩ := eL F hk
 have ⟨a, F, hk⟩ := eS F hk
 have ⟨k, l, m, F, hk⟩ := eL F hk
 have ⟨n, F, hk⟩ := eI F hk
 have ⟨b, F, hk⟩ := eI F hk
 have ⟨g, F, hk⟩ := eI F hk
 exact cA (s0 := (b, g)) follows (fun _ h => by cases h) he F (fun s => [(41, .int .i64 s.2), (5, .int .i64 s.1)]) (by kernel_rfl) (F.take 2) hk (fun Kn3 e h => dI .i64 (e 5) fun b => dI .i64 (e 41) fun g => Kn3 (b, g) h) (fun Kn3 e h hk => by
  have F := Ag.nil (e := e)
  have ⟨b, F, hk⟩ := eI F hk
  have ⟨g, F, hk⟩ := eI F hk
  exact ⟨(b, g), F, hk⟩)
  (fun Kn3 => [(34, fun e h => dL (e 0) fun c d f => dS (e 1) fun a => dI .i64 (e 5) fun b => dS (e 7) fun t => dL (e 39) fun k l m => dI .i64 (e 40) fun n => dI .i64 (e 41) fun g => uo c d f a b t k l m n g Q Kn3 h)]) (fun Kn3 => [])
  (fun Kn3 => ⟨fun e h _ hk => by
 have F := Ag.nil (e := e)
 have ⟨c, d, f, F, hk⟩ := eL F hk
 have ⟨a, F, hk⟩ := eS F hk
 have ⟨b, F, hk⟩ := eI F hk
 have ⟨t, F, hk⟩ := eS F hk
 have ⟨k, l, m, F, hk⟩ := eL F hk
 have ⟨n, F, hk⟩ := eI F hk
 have ⟨g, F, hk⟩ := eI F hk
 exact ii F (by as_aux_lemma => kernel_rfl) hk, trivial⟩)
  (fun Kn3 => trivial) (fun e s h Kn3 => by as_aux_lemma => kernel_rfl)⟩, ⟨by kernel_rfl, fun e h he hk => by
 have F := Ag.nil (e := e)
 have ⟨a, F, hk⟩ := eS F hk
 have ⟨j, F, hk⟩ := eA F hk
 have ⟨o, p, q, F, hk⟩ := eL F hk
 have ⟨r, F, hk⟩ := eI F hk
 have ⟨i, F, hk⟩ := eI F hk
 exact cA (s0 := i) follows (fun _ h => by cases h) he F (fun s => [(65, .int .i64 s)]) (by kernel_rfl) (F.take 1) hk (fun Kn6 e h => dI .i64 (e 65) fun i => Kn6 i h) (fun Kn6 e h hk => by
  have F := Ag.nil (e := e)
  have ⟨i, F, hk⟩ := eI F hk
  exact ⟨i, F, hk⟩)
  (fun Kn6 => []) (fun Kn6 => [])
  (fun Kn6 => trivial)
  (fun Kn6 => trivial) (fun e s h Kn6 => by as_aux_lemma => kernel_rfl)⟩, trivial⟩ (by as_aux_lemma => kernel_rfl) hk
def vP (a : Int) (Q : QT) (h : aA) : Prop :=
 if (decide (a ≥ 48)) = true then (Q (.bool (decide (a ≤ 57))) h) else (Q (.bool false) h)
set_option maxRecDepth 100000 in
theorem AN (a : _) {Q : QT} {h : aA} (hk : vP a Q h) : aE Tryz.prog qP #[.int .u8 a] h Q :=
 aW follows Tryz.func179 (Tryz.call179 _) rfl rfl [] []
 trivial
 trivial (by as_aux_lemma => kernel_rfl) hk
def yg (c : Bool) (d f a : Int) (Q : QT) (h : aA) : Prop :=
 alV h (.cells #[.bool c, .int .u64 d, .int .u64 f] cZ) fun b h1 => ldB h1 b fun g => if (!g) = true then (ldI h1 (b.add 2) .u64 fun i => 0 ≤ (wrap .u64 (wrap .i64 (31 - a))) ∧ Q (.bool ((wrap .u64 (BitVec.toNat (BitVec.ofInt (IntKind.bits .u64) (Int.fdiv i (2 ^ (min (Int.toNat (wrap .u64 (wrap .i64 (31 - a)))) (IntKind.bits .u64)))) &&& BitVec.ofInt (IntKind.bits .u64) 1) : Int)) == 1)) h1) else (if (decide (a < 64)) = true then (ldI h1 (b.add 1) .u64 fun j => 0 ≤ (wrap .u64 (wrap .i64 (63 - a))) ∧ Q (.bool ((wrap .u64 (BitVec.toNat (BitVec.ofInt (IntKind.bits .u64) (Int.fdiv j (2 ^ (min (Int.toNat (wrap .u64 (wrap .i64 (63 - a)))) (IntKind.bits .u64)))) &&& BitVec.ofInt (IntKind.bits .u64) 1) : Int)) == 1)) h1) else (ldI h1 (b.add 2) .u64 fun k => 0 ≤ (wrap .u64 (wrap .i64 (127 - a))) ∧ Q (.bool ((wrap .u64 (BitVec.toNat (BitVec.ofInt (IntKind.bits .u64) (Int.fdiv k (2 ^ (min (Int.toNat (wrap .u64 (wrap .i64 (127 - a)))) (IntKind.bits .u64)))) &&& BitVec.ofInt (IntKind.bits .u64) 1) : Int)) == 1)) h1))
set_option maxRecDepth 100000 in
theorem DH (a b c d : _) {Q : QT} {h : aA} (hk : yg a b c d Q h) : aE Tryz.prog tm #[.agg #[.bool a, .int .u64 b, .int .u64 c], .int .i64 d] h Q :=
 aW follows Tryz.func180 (Tryz.call180 _) rfl rfl [] []
 trivial
 trivial (by as_aux_lemma => kernel_rfl) hk
def pC (a : Int) (Q : QT) (h : aA) : Prop :=
 if (decide (a ≥ 97)) = true then (if (decide (a ≤ 122)) = true then (Q (.bool true) h) else (if (decide (a ≥ 65)) = true then (if (decide (a ≤ 90)) = true then (Q (.bool true) h) else (if (decide (a ≥ 48)) = true then (if (decide (a ≤ 57)) = true then (Q (.bool true) h) else (Q (.bool (a == 32)) h)) else (Q (.bool (a == 32)) h))) else (if (decide (a ≥ 48)) = true then (if (decide (a ≤ 57)) = true then (Q (.bool true) h) else (Q (.bool (a == 32)) h)) else (Q (.bool (a == 32)) h)))) else (if (decide (a ≥ 65)) = true then (if (decide (a ≤ 90)) = true then (Q (.bool true) h) else (if (decide (a ≥ 48)) = true then (if (decide (a ≤ 57)) = true then (Q (.bool true) h) else (Q (.bool (a == 32)) h)) else (Q (.bool (a == 32)) h))) else (if (decide (a ≥ 48)) = true then (if (decide (a ≤ 57)) = true then (Q (.bool true) h) else (Q (.bool (a == 32)) h)) else (Q (.bool (a == 32)) h)))
set_option maxRecDepth 100000 in
theorem uI (a : _) {Q : QT} {h : aA} (hk : pC a Q h) : aE Tryz.prog kZ #[.int .u8 a] h Q :=
 aW follows Tryz.func181 (Tryz.call181 _) rfl rfl [] []
 trivial
 trivial (by as_aux_lemma => kernel_rfl) hk
def jn (b : ByteArray) (c : Int) (Q : QT) (h : aA) : Prop :=
 aE Tryz.prog iH #[.string b, .int .u8 c] h fun v h1 => ∃ a, v = .int .i64 a ∧ Q (.int .i64 a) h1
set_option maxRecDepth 100000 in
theorem oe (a b : _) {Q : QT} {h : aA} (hk : jn a b Q h) : aE Tryz.prog jc #[.string a, .int .u8 b] h Q :=
 aW follows Tryz.func184 (Tryz.call184 _) rfl rfl [] []
 trivial
 trivial (by as_aux_lemma => kernel_rfl) hk
def jw (b a : ByteArray) (Q : QT) (h : aA) : Prop :=
 if (decide (((b.size : Nat) : Int) ≥ ((a.size : Nat) : Int))) = true then (pI b none (some ((a.size : Nat) : Int)) fun c => Q (.bool (c.toList == a.toList)) h) else (Q (.bool false) h)
set_option maxRecDepth 100000 in
theorem ni (a b : _) {Q : QT} {h : aA} (hk : jw a b Q h) : aE Tryz.prog eX #[.string a, .string b] h Q :=
 aW follows Tryz.func186 (Tryz.call186 _) rfl rfl [] []
 trivial
 trivial (by as_aux_lemma => kernel_rfl) hk
end Go.Proofs.YtjmfpeiidlpngaaGreatDoor
namespace Go.Proofs.YtjmfpeiidlpngaaGreatDoor.Au
set_option linter.unusedSimpArgs false
set_option linter.unusedVariables false
set_option maxRecDepth 20000
abbrev Nm := List UInt8
def ls (sg : List Nm) : Nm → Nm
 | [] => []
 | c :: w => if c :: w ∈ sg then c :: w else ls sg w
structure Pre (sg : List Nm) : Prop where
 nil : [] ∈ sg
 pre : ∀ w c, w ++ [c] ∈ sg → w ∈ sg
section
variable {sg : List Nm}
theorem xE (P : Pre sg) : ∀ w, ls sg w ∈ sg
 | [] => P.nil
 | c :: w => by
  unfold ls; split
  ·assumption
  ·exact xE P w
theorem u4 : ∀ w, ls sg w <:+ w
 | [] => List.suffix_refl _
 | c :: w => by
  unfold ls; split
  ·exact List.suffix_refl _
  ·exact (u4 w).trans (List.suffix_cons c w)
theorem x8 : ∀ (w : Nm) {v : Nm}, v <:+ w → v ∈ sg → v <:+ ls sg w
 | [], v, h, _ => by rw [List.suffix_nil.1 h]; exact List.nil_suffix
 | c :: w, v, h, hv => by
  unfold ls; split
  ·exact h
  ·rename_i hn
   rcases List.suffix_cons_iff.1 h with h | h
   ·subst h; exact absurd hv hn
   ·exact x8 w h hv
theorem Ke {a b : Nm} (h1 : a <:+ b) (h2 : b <:+ a) : a = b := by
 have := h1.length_le; have := h2.length_le
 exact h1.eq_of_length (by omega)
theorem Ld (P : Pre sg) {w v : Nm} (h1 : v ∈ sg) (h2 : v <:+ w) (h3 : ∀ u, u <:+ w → u ∈ sg → u <:+ v) : v = ls sg w :=
 Ke (x8 w h2 h1) (h3 _ (u4 w) (xE P w))
theorem E7 {w : Nm} (h : w ∈ sg) : ls sg w = w := by
 cases w with
 | nil => rfl
 | cons c w => unfold ls; rw [if_pos h]
theorem G0 {v w : Nm} {c : UInt8} (h : v <:+ w ++ [c]) : v = [] ∨ ∃ u, v = u ++ [c] ∧ u <:+ w := by
 rcases List.eq_nil_or_concat v with rfl | ⟨u, d, rfl⟩
 ·exact .inl rfl
 ·right
  rw [List.concat_eq_append] at h ⊢
  obtain ⟨t, ht⟩ := h
  rw [← List.append_assoc] at ht
  obtain ⟨h1, h2⟩ := List.append_inj' ht rfl
  cases h2
  exact ⟨u, rfl, t, h1⟩
theorem DX {v w : Nm} {c : UInt8} (h : v <:+ w) : v ++ [c] <:+ w ++ [c] := by
 obtain ⟨t, rfl⟩ := h; exact ⟨t, by rw [List.append_assoc]⟩
theorem E1 (P : Pre sg) (w : Nm) (c : UInt8) : ls sg (w ++ [c]) = ls sg (ls sg w ++ [c]) := by
 refine (Ld P (xE P _) ((u4 _).trans (DX (u4 w))) fun u h1 h2 => ?_).symm
 rcases G0 h1 with rfl | ⟨v, rfl, hv⟩
 ·exact List.nil_suffix
 ·exact x8 _ (DX (x8 w hv (P.pre _ _ h2))) h2
def fl (sg : List Nm) (w : Nm) : Nm := ls sg w.tail
theorem KN (P : Pre sg) (w : Nm) : fl sg w ∈ sg := xE P _
theorem xJ (w : Nm) (h : w ≠ []) : (fl sg w).length < w.length := by
 have h1 := (u4 (sg := sg) w.tail).length_le
 have h2 := List.length_pos_iff.2 h
 unfold fl
 rw [List.length_tail] at h1; omega
theorem Dv (P : Pre sg) (w : Nm) (hw : w ≠ []) (c : UInt8) : fl sg (w ++ [c]) = ls sg (fl sg w ++ [c]) := by
 unfold fl
 rw [List.tail_append_of_ne_nil hw, E1 P]
theorem Jv (P : Pre sg) (w : Nm) (hw : w ≠ []) (c : UInt8) (h : w ++ [c] ∉ sg) : ls sg (w ++ [c]) = ls sg (fl sg w ++ [c]) := by
 rw [← Dv P w hw c]
 cases w with
 | nil => exact absurd rfl hw
 | cons d w =>
  show ls sg (d :: (w ++ [c])) = ls sg (w ++ [c])
  rw [ls]; exact if_neg h
theorem KH (P : Pre sg) {v w : Nm} (h : v <:+ w) (hv : v ∈ sg) (hne : v ≠ w) : v <:+ fl sg w := by
 cases w with
 | nil => rw [List.suffix_nil.1 h]; exact List.nil_suffix
 | cons c w =>
  rcases List.suffix_cons_iff.1 h with h | h
  ·exact absurd h hne
  ·exact x8 w h hv
theorem Hh (w : Nm) : fl sg w <:+ w := (u4 _).trans (List.tail_suffix w)
variable (sg) in
def uu (E : Nm → List Nat) (w : Nm) : Nm :=
 if h : w = [] then [] else if E (fl sg w) ≠ [] then fl sg w else uu E (fl sg w)
termination_by w.length
decreasing_by exact xJ w h
theorem sF (E : Nm → List Nat) : uu sg E [] = [] := by rw [uu, dif_pos rfl]
theorem vp (E : Nm → List Nat) {w : Nm} (h : w ≠ []) : uu sg E w = if E (fl sg w) ≠ [] then fl sg w else uu sg E (fl sg w) := by rw [uu, dif_neg h]
theorem Al (P : Pre sg) (E : Nm → List Nat) : ∀ (n : Nat) (w : Nm), w.length ≤ n → uu sg E w ∈ sg
 | 0, w, h => by rw [List.length_eq_zero_iff.1 (Nat.le_zero.1 h), sF]; exact P.nil
 | n + 1, w, h => by
  by_cases hw : w = []
  ·rw [hw, sF]; exact P.nil
  ·rw [vp E hw]; split
   ·exact KN P w
   ·exact Al P E n _ (by have := xJ (sg := sg) w hw; omega)
theorem uL (E : Nm → List Nat) : ∀ (n : Nat) (w : Nm), w.length ≤ n → w ≠ [] → (uu sg E w).length < w.length
 | 0, w, h, hw => absurd (List.length_eq_zero_iff.1 (Nat.le_zero.1 h)) hw
 | n + 1, w, h, hw => by
  have hl := xJ (sg := sg) w hw
  rw [vp E hw]; split
  ·exact hl
  ·by_cases hf : fl sg w = []
   ·rw [hf, sF]; exact List.length_pos_iff.2 hw
   ·have := uL E n (fl sg w) (by omega) hf; omega
theorem zJ (E : Nm → List Nat) : ∀ (n : Nat) (w : Nm), w.length ≤ n → uu sg E w <:+ w
 | 0, w, h => by rw [List.length_eq_zero_iff.1 (Nat.le_zero.1 h), sF]; exact List.suffix_refl _
 | n + 1, w, h => by
  by_cases hw : w = []
  ·rw [hw, sF]; exact List.suffix_refl _
  ·rw [vp E hw]; split
   ·exact Hh w
   ·exact (zJ E n _ (by have := xJ (sg := sg) w hw; omega)).trans (Hh w)
theorem CH (P : Pre sg) (E : Nm → List Nat) (h0 : E [] = []) : ∀ (n : Nat) (w : Nm), w.length ≤ n → ∀ v, v <:+ w → v ∈ sg → E v ≠ [] → v ≠ w → v <:+ uu sg E w
 | 0, w, h, v, hs, hm, he, hne => by
  have := List.length_eq_zero_iff.1 (Nat.le_zero.1 h)
  subst this
  exact absurd (List.suffix_nil.1 hs) hne
 | n + 1, w, h, v, hs, hm, he, hne => by
  by_cases hw : w = []
  ·subst hw; exact absurd (List.suffix_nil.1 hs) hne
  ·have hf := KH P hs hm hne
   rw [vp E hw]; split
   ·exact hf
   ·rename_i hE
    have hE : E (fl sg w) = [] := Classical.byContradiction fun h => hE h
    exact CH P E h0 n _ (by have := xJ (sg := sg) w hw; omega) v hf hm he fun h => by rw [h] at he; exact he hE
variable (sg) in
def mM (E : Nm → List Nat) (w : Nm) : List Nat :=
 if h : w = [] then [] else E w ++ mM E (uu sg E w)
termination_by w.length
decreasing_by exact uL E _ w (Nat.le_refl _) h
theorem tC (E : Nm → List Nat) : mM sg E [] = [] := by rw [mM, dif_pos rfl]
theorem xY (E : Nm → List Nat) {w : Nm} (h : w ≠ []) : mM sg E w = E w ++ mM sg E (uu sg E w) := by rw [mM, dif_neg h]
theorem vx (P : Pre sg) (E : Nm → List Nat) (h0 : E [] = []) (j : Nat) : ∀ (n : Nat) (w : Nm), w.length ≤ n → w ∈ sg → (j ∈ mM sg E w ↔ ∃ v, v <:+ w ∧ v ∈ sg ∧ j ∈ E v)
 | 0, w, h, hw => by
  have := List.length_eq_zero_iff.1 (Nat.le_zero.1 h)
  subst this
  rw [tC]
  constructor
  ·intro h; cases h
  ·rintro ⟨v, h1, h2, h3⟩; rw [List.suffix_nil.1 h1, h0] at h3; cases h3
 | n + 1, w, h, hw => by
  by_cases hn : w = []
  ·subst hn; exact vx P E h0 j 0 [] (Nat.le_refl _) hw
  ·have hl := uL (sg := sg) E _ w (Nat.le_refl _) hn
   have ih := vx P E h0 j n (uu sg E w) (by omega) (Al P E _ w (Nat.le_refl _))
   rw [xY E hn, List.mem_append, ih]
   constructor
   ·rintro (h | ⟨v, h1, h2, h3⟩)
    ·exact ⟨w, List.suffix_refl _, hw, h⟩
    ·exact ⟨v, h1.trans (zJ E _ w (Nat.le_refl _)), h2, h3⟩
   ·rintro ⟨v, h1, h2, h3⟩
    by_cases hv : v = w
    ·left; rw [← hv]; exact h3
    ·right; exact ⟨v, CH P E h0 _ w (Nat.le_refl _) v h1 h2 (fun h => by rw [h] at h3; cases h3) hv, h2, h3⟩
theorem yc (P : Pre sg) (E : Nm → List Nat) (h0 : E [] = []) (hE : ∀ w, (E w).Nodup) (hd : ∀ v w j, j ∈ E v → j ∈ E w → v = w) : ∀ (n : Nat) (w : Nm), w.length ≤ n → w ∈ sg → (mM sg E w).Nodup
 | 0, w, h, hw => by rw [List.length_eq_zero_iff.1 (Nat.le_zero.1 h), tC]; exact List.nodup_nil
 | n + 1, w, h, hw => by
  by_cases hn : w = []
  ·rw [hn, tC]; exact List.nodup_nil
  ·have hl := uL (sg := sg) E _ w (Nat.le_refl _) hn
   have hm := Al P E _ w (Nat.le_refl _)
   rw [xY E hn]
   refine List.nodup_append.2 ⟨hE w, yc P E h0 hE hd n _ (by omega) hm, fun a ha b hb hab => ?_⟩
   subst hab
   obtain ⟨v, h1, h2, h3⟩ := (vx P E h0 a _ _ (Nat.le_refl _) hm).1 hb
   have := hd _ _ _ ha h3
   subst this
   have := h1.length_le
   omega
end
end Go.Proofs.YtjmfpeiidlpngaaGreatDoor.Au
namespace Go.Proofs.YtjmfpeiidlpngaaGreatDoor.Au
set_option linter.unusedSimpArgs false
set_option linter.unusedVariables false
set_option maxRecDepth 20000
open Go
open Go.IntKind (wrap)
theorem slS (l : Nm) {a b : Int} (i j : Nat) (ha : a = i) (hb : b = j) (h1 : i ≤ j) (h2 : j ≤ l.length) {K : ByteArray → Prop} (hk : K (bs ((l.drop i).take (j - i)))) : pI (bs l) (some a) (some b) K := by
 subst ha hb
 refine ⟨by omega, by omega, by rw [bN]; omega, ?_⟩
 rw [Int.toNat_natCast, Int.toNat_natCast, tK]; exact hk
theorem slF (l : Nm) {a : Int} (i : Nat) (ha : a = i) (h2 : i ≤ l.length) {K : ByteArray → Prop} (hk : K (bs (l.drop i))) : pI (bs l) (some a) none K := by
 subst ha
 refine ⟨by omega, by rw [bN]; omega, ?_⟩
 rw [Int.toNat_natCast, bN, Ju]; exact hk
theorem slT (l : Nm) {b : Int} (j : Nat) (hb : b = j) (h2 : j ≤ l.length) {K : ByteArray → Prop} (hk : K (bs (l.take j))) : pI (bs l) none (some b) K := by
 subst hb
 refine ⟨by omega, by rw [bN]; omega, ?_⟩
 rw [Int.toNat_natCast, Ji]; exact hk
def bP (b : UInt8) : Int := b.toNat
theorem nh (b : UInt8) : 0 ≤ bP b ∧ bP b ≤ 255 := by unfold bP; have := b.toNat_lt; omega
theorem xN {u v : UInt8} (h : bP u = bP v) : u = v := by apply UInt8.toNat_inj.1; unfold bP at h; omega
theorem ixS (l : Nm) {n : Int} (i : Nat) (hn : n = i) (hi : i < l.length) {K : Int → Prop} (hk : K (bP l[i])) : q6 (bs l) n K := by
 subst hn
 refine ⟨by omega, by rw [bN]; omega, ?_⟩
 have : bAt (bs l) (i : Int) = bP l[i] := by
  unfold bAt bP bs
  simp [hi]
 rw [this]; exact hk
def bV (b : UInt8) : List Value := [.int .u8 b.toNat]
theorem xS (b : UInt8) : (bV b).length = 1 := rfl
theorem vk (l : Nm) : l.flatMap bV = eJ l := by
 induction l with
 | nil => rfl
 | cons a l ih => rw [List.flatMap_cons, ih]; rfl
theorem DL : gW Tryz.prog aV pb Tryz.t5 (.int .u8 0) := ⟨Tryz.underlying98, by kernel_rfl, by kernel_rfl, by kernel_rfl, by decide⟩
theorem BJ [Gh] {h : aA} {p : Option Addr} {c : Nat} {l : Nm} (R : Row 1 bV h p c l) {K : Value → aA → Prop} (hk : K (.string (bs l)) h) : px Tryz.prog aV dX (.slice p l.length c) h K := by
 have o := R.own
 rw [vk] at o
 exact sY Tryz.underlying98 Tryz.underlying9 Tryz.underlying5 (l := l) rfl (fun ad hd => by subst hd; exact o.cells) (fun hd => by subst hd; have := o.1; simpa [eJ] using this) hk
theorem LG [Gh] {h : aA} {p : Option Addr} {cap : Nat} {L : Nm} (R : Row 1 bV h p cap L) {e : UInt8} {b : Addr} (ob : Own h b (bV e) pb) (hl : L.length ≤ 2 ^ 29) {K : Value → aA → Prop}
  (hk : ∀ p' cap' h', Row 1 bV h' p' cap' (L ++ [e]) → Fr (InA p) h h' → (∀ b, InA p' b → InA p b ∨ h.size ≤ b) → K (.slice p' (L ++ [e]).length cap') h') :
  dU Tryz.prog .append #[aV, aV] aV #[false, false] #[.slice p L.length cap, .slice (some b) 1 1] h K :=
 R.app DL Tryz.underlying98 (by intro k e; cases e) (by kernel_rfl) (by decide +kernel) xS (fun _ => rfl) ob 1 hl hk
def u5 (c : Int) : Int := if 65 ≤ c ∧ c ≤ 90 then c + 32 else c
def iC (b : UInt8) : UInt8 := if 65 ≤ b ∧ b ≤ 90 then b + 32 else b
def cI (l : Nm) : Nm := l.map iC
theorem wrb {x : Int} (h1 : 0 ≤ x) (h2 : x ≤ 255) : wrap .u8 x = x := wr8 h1 h2
theorem oM (b : UInt8) : bP (iC b) = u5 (bP b) := by
 have hb := nh b
 unfold iC u5 bP at *
 have e : (65 ≤ b ∧ b ≤ 90) ↔ (65 ≤ (b.toNat : Int) ∧ (b.toNat : Int) ≤ 90) := by
  rw [UInt8.le_iff_toNat_le, UInt8.le_iff_toNat_le]
  show (65 ≤ b.toNat ∧ b.toNat ≤ 90) ↔ _
  omega
 by_cases h : 65 ≤ b ∧ b ≤ 90
 ·rw [if_pos h, if_pos (e.1 h)]
  have h2 := (e.1 h).2
  rw [UInt8.toNat_add]
  show (((b.toNat + 32) % 256 : Nat) : Int) = _
  omega
 ·rw [if_neg h, if_neg fun h' => h (e.2 h')]
theorem yU [Gh] (c : Int) (h0 : 0 ≤ c) (h1 : c ≤ 255) {h : aA} {Q : Value → aA → Prop} (hk : Q (.int .u8 (u5 c)) h) : aE Tryz.prog kz #[.int .u8 c] h Q := by
 apply wQ
 unfold re
 unfold u5 at hk
 refine ifD (fun e => ifD (fun e2 => ?_) fun e2 => ?_) fun e => ?_
 ·rw [if_pos ⟨e, e2⟩] at hk
  rw [wrb (x := c + 97) (by omega) (by omega), wrb (by omega) (by omega)]
  have : c + 97 - 65 = c + 32 := by omega
  rw [this]; exact hk
 ·rw [if_neg (by omega)] at hk; exact hk
 ·rw [if_neg (by omega)] at hk; exact hk
theorem jq (l : Nm) : (cI l).length = l.length := by unfold cI; simp
theorem GW (l : Nm) (i : Nat) (hi : i < l.length) : (cI (l.take i) ++ l.drop i).set i (iC l[i]) = cI (l.take (i + 1)) ++ l.drop (i + 1) := by
 have hlow : cI (l.take (i + 1)) = cI (l.take i) ++ [iC l[i]] := by
  rw [show l.take (i + 1) = l.take i ++ [l[i]] by rw [List.take_append_getElem]]; unfold cI; rw [List.map_append]; rfl
 have hlen : (cI (l.take i)).length = i := by rw [jq, List.length_take]; omega
 rw [List.set_append_right _ _ (by omega), hlen, Nat.sub_self, List.drop_eq_getElem_cons hi, List.set_cons_zero, hlow]
 simp
theorem Kb (l : Nm) (i : Nat) (hi : i < l.length) (h : i < (cI (l.take i) ++ l.drop i).length) : (cI (l.take i) ++ l.drop i)[i] = l[i] := by
 have hlen : (cI (l.take i)).length = i := by rw [jq, List.length_take]; omega
 rw [List.getElem_append_right (by omega), List.getElem_drop]
 congr 1; omega
theorem Kr (l : Nm) (i : Nat) (hi : i ≤ l.length) : (cI (l.take i) ++ l.drop i).length = l.length := by rw [List.length_append, jq, List.length_take, List.length_drop]; omega
theorem _root_.Go.Proofs.YtjmfpeiidlpngaaGreatDoor.Row.setB [Gh] {h : aA} {p : Option Addr} {cap : Nat} {L : Nm} (R : Row 1 bV h p cap L) {n : Int} {len : Nat} (i : Nat) (hn : n = i) (hl : len = L.length) (hi : i < L.length) (x : UInt8) {c : Int} (hc : c = bP x) {K : aA → Prop} (hk : ∀ h', Fr (InA p) h h' → Row 1 bV h' p cap (L.set i x) → K h') :
  bR n len (nn p fun a => st1 h (a.add (n.toNat * 1)) (.int .u8 c) K) := by
 subst hc hl
 refine bS i hn hi ?_
 obtain ⟨ad, hp, _⟩ := R.cellsAt xS (by omega) i hi
 subst hp
 refine aS ?_
 rw [hn, Int.toNat_natCast]
 have := R.set1 xS i hi rfl (j := 0) (by omega) (v := .int .u8 (bP x)) rfl (e' := x) rfl hk
 rw [lY, Nat.add_zero] at this
 exact this
end Go.Proofs.YtjmfpeiidlpngaaGreatDoor.Au
namespace Go.Proofs.YtjmfpeiidlpngaaGreatDoor.Au
set_option linter.unusedSimpArgs false
set_option linter.unusedVariables false
set_option maxRecDepth 20000
open Go
open Go.IntKind (wrap)
structure Pt where
 t : Nm
 nc : Bool
def ptV (p : Pt) : List Value := [.string (bs p.t), .bool p.nc]
def Hd (h : aA) (q : Option Addr) (L : List Pt) : Prop := ∀ i (hi : i < L.length), ∃ ad, q = some ad ∧ bB h (ad.add (i * 2)) (ptV L[i])
theorem Hd.get {h : aA} {q : Option Addr} {L : List Pt} (S : Hd h q L) {n : Int} (i : Nat) (hn : n = i) (hi : i < L.length) {K : Addr → Prop} (hk : ∀ ad, bB h (ad.add (i * 2)) [.string (bs L[i].t), .bool L[i].nc] → K ad) : bR n L.length (nn q fun a => K a) := by
 obtain ⟨ad, rfl, c⟩ := S i hi
 exact bS i hn hi (aS (hk ad c))
def zU (s : Nm) (k n : Nat) : Nm := (s.drop (n - k)).take k
def uA (p : Pt) (s : Nm) (n : Nat) : Bool :=
 decide (p.t ≠ []) && (decide (p.t.length ≤ n) && (if p.nc = true then decide (cI (zU s p.t.length n) = cI p.t) else decide (zU s p.t.length n = p.t)))
abbrev Hit := Nat × Nat
def zT (x : Hit) : List Value := [.int .i64 x.1, .int .i64 x.2]
theorem Dn (x : Hit) : (zT x).length = 2 := rfl
theorem Kx : gW Tryz.prog kB x9 Tryz.t174 (.agg #[.int .i64 0, .int .i64 0]) :=
 ⟨Tryz.underlying108, by kernel_rfl, by kernel_rfl, by kernel_rfl, by decide +kernel⟩
theorem KL [Gh] {h : aA} {p : Option Addr} {cap : Nat} {L : List Hit} (R : Row 2 zT h p cap L) {e : Hit} {b : Addr} {T : TypeId} (ob : Own h b (zT e) T) (hl : L.length ≤ 2 ^ 29) {K : Value → aA → Prop}
  (hk : ∀ p' cap' h', Row 2 zT h' p' cap' (L ++ [e]) → Fr (InA p) h h' → (∀ b, InA p' b → InA p b ∨ h.size ≤ b) → K (.slice p' (L ++ [e]).length cap') h') :
  dU Tryz.prog .append #[kB, kB] kB #[false, false] #[.slice p L.length cap, .slice (some b) 1 1] h K :=
 R.app Kx Tryz.underlying108 (by intro k e; cases e) (by kernel_rfl) (by decide +kernel) Dn (fun _ => rfl) ob 1 hl hk
def hA (L : List Pt) (s : Nm) (n i : Nat) : List Hit := (List.range i).flatMap fun j => if uA (L.getD j ⟨[], false⟩) s n = true then [(j, n)] else []
theorem JF (L : List Pt) (s : Nm) (n i : Nat) : hA L s n (i + 1) = hA L s n i ++ (if uA (L.getD i ⟨[], false⟩) s n = true then [(i, n)] else []) := by
 unfold hA
 rw [List.range_succ, List.flatMap_append, List.flatMap_cons, List.flatMap_nil, List.append_nil]
theorem Ho (L : List Pt) (s : Nm) (n : Nat) : ∀ i, (hA L s n i).length ≤ i
 | 0 => Nat.le_refl _
 | i + 1 => by
  have ih := Ho L s n i
  rw [JF, List.length_append]
  split
  ·rw [List.length_singleton]; omega
  ·rw [List.length_nil]; omega
def pT (L : List Pt) (s : Nm) (fm k : Nat) : List Hit := (List.range k).flatMap fun m => hA L s (fm + 1 + m) L.length
theorem AW (L : List Pt) (s : Nm) (fm k : Nat) : pT L s fm (k + 1) = pT L s fm k ++ hA L s (fm + 1 + k) L.length := by
 unfold pT
 rw [List.range_succ, List.flatMap_append]; simp
theorem wS (L : List Pt) (s : Nm) (fm : Nat) : ∀ k, (pT L s fm k).length ≤ k * L.length
 | 0 => by simp [pT]
 | k + 1 => by
  have ih := wS L s fm k
  have h2 := Ho L s (fm + 1 + k) L.length
  rw [AW, List.length_append, Nat.succ_mul]; omega
end Go.Proofs.YtjmfpeiidlpngaaGreatDoor.Au
namespace Go.Proofs.YtjmfpeiidlpngaaGreatDoor.Au
set_option linter.unusedSimpArgs false
set_option linter.unusedVariables false
set_option maxRecDepth 20000
open Go
open Go.IntKind (wrap)
theorem vn (s : Nm) (n : Nat) : (cI s).take n = cI (s.take n) := by unfold cI; rw [List.map_take]
end Go.Proofs.YtjmfpeiidlpngaaGreatDoor.Au
namespace Go.Proofs.YtjmfpeiidlpngaaGreatDoor
set_option linter.unusedSimpArgs false
set_option linter.unusedVariables false
set_option maxRecDepth 20000
open Go
structure aK where
 V6 : Bool
 Hi : Int
 Lo : Int
def aK.vals (r : aK) : List Go.Value := [.bool r.V6, .int .u64 r.Hi, .int .u64 r.Lo]
structure aK.ok (h : aA) (r : aK) : Prop where
 k0 : bOk h r.V6
 k1 : (kOk .u64) h r.Hi
 k2 : (kOk .u64) h r.Lo
theorem aK.ok_fr (h h' : aA) (r : aK) (f : Fr (fun _ => False) h h') (o : aK.ok h r) : aK.ok h' r :=
 ⟨o.k0, o.k1, o.k2⟩
section
open Go.ChangeShapes Go.WideShapes Go.ChangeAt Go.RowKit
variable {H : Type} {enc : TypeId × Go.Value → H} {w : World}
set_option maxRecDepth 100000 in
theorem aK.op : bM enc Tryz.prog w cZ aK.vals aK.ok := fun fuel cs x h => by
 obtain ⟨xs, n, rfl, hx, hl, hxl, hf⟩ := DataW.trod_struct Tryz.underlying25 h
 rw [show Tryz.prog.cellsOf 25 = 3 from by kernel_rfl] at hl
 match xs, hxl, cs, hl with
 | [y0, y1, y2], _, [v0, v1, v2], _ =>
  have g0 : DataW.trod enc Tryz.prog w 0 (fun _ => true) true n 4 (([v0, v1, v2].drop 0).take (Tryz.prog.cellsOf 4)) = some y0 := hf 0 _ rfl
  rw [show Tryz.prog.cellsOf 4 = 1 from by kernel_rfl] at g0
  obtain ⟨z0, e0, o0⟩ := ((nj Tryz.underlying4) : bM enc Tryz.prog w 4 (fun n : Bool => [Go.Value.bool n]) bOk) _ _ _ g0
  have g1 : DataW.trod enc Tryz.prog w 0 (fun _ => true) true n 23 (([v0, v1, v2].drop 1).take (Tryz.prog.cellsOf 23)) = some y1 := hf 1 _ rfl
  rw [show Tryz.prog.cellsOf 23 = 1 from by kernel_rfl] at g1
  obtain ⟨z1, e1, o1⟩ := ((eE Tryz.underlying23) : bM enc Tryz.prog w 23 (fun n : Int => [Go.Value.int .u64 n]) (kOk .u64)) _ _ _ g1
  have g2 : DataW.trod enc Tryz.prog w 0 (fun _ => true) true n 23 (([v0, v1, v2].drop 2).take (Tryz.prog.cellsOf 23)) = some y2 := hf 2 _ rfl
  rw [show Tryz.prog.cellsOf 23 = 1 from by kernel_rfl] at g2
  obtain ⟨z2, e2, o2⟩ := ((eE Tryz.underlying23) : bM enc Tryz.prog w 23 (fun n : Int => [Go.Value.int .u64 n]) (kOk .u64)) _ _ _ g2
  obtain rfl := List.head_eq_of_cons_eq e0
  obtain rfl := List.head_eq_of_cons_eq e1
  obtain rfl := List.head_eq_of_cons_eq e2
  exact ⟨⟨z0, z1, z2⟩, rfl, ⟨o0, o1, o2⟩⟩
end
structure bQ where
 Addr : aK
 Bits : Int
def bQ.vals (r : bQ) : List Go.Value := [.bool r.Addr.V6, .int .u64 r.Addr.Hi, .int .u64 r.Addr.Lo, .int .i64 r.Bits]
structure bQ.ok (h : aA) (r : bQ) : Prop where
 k0 : aK.ok h r.Addr
 k1 : (kOk .i64) h r.Bits
theorem bQ.ok_fr (h h' : aA) (r : bQ) (f : Fr (fun _ => False) h h') (o : bQ.ok h r) : bQ.ok h' r :=
 ⟨aK.ok_fr _ _ _ f o.k0, o.k1⟩
section
open Go.ChangeShapes Go.WideShapes Go.ChangeAt Go.RowKit
variable {H : Type} {enc : TypeId × Go.Value → H} {w : World}
set_option maxRecDepth 100000 in
theorem bQ.op : bM enc Tryz.prog w xr bQ.vals bQ.ok := fun fuel cs x h => by
 obtain ⟨xs, n, rfl, hx, hl, hxl, hf⟩ := DataW.trod_struct Tryz.underlying137 h
 rw [show Tryz.prog.cellsOf 137 = 4 from by kernel_rfl] at hl
 match xs, hxl, cs, hl with
 | [y0, y1], _, [v0, v1, v2, v3], _ =>
  have g0 : DataW.trod enc Tryz.prog w 0 (fun _ => true) true n 25 (([v0, v1, v2, v3].drop 0).take (Tryz.prog.cellsOf 25)) = some y0 := hf 0 _ rfl
  rw [show Tryz.prog.cellsOf 25 = 3 from by kernel_rfl] at g0
  obtain ⟨z0, e0, o0⟩ := (aK.op : bM enc Tryz.prog w 25 aK.vals aK.ok) _ _ _ g0
  have g1 : DataW.trod enc Tryz.prog w 0 (fun _ => true) true n 3 (([v0, v1, v2, v3].drop 3).take (Tryz.prog.cellsOf 3)) = some y1 := hf 1 _ rfl
  rw [show Tryz.prog.cellsOf 3 = 1 from by kernel_rfl] at g1
  obtain ⟨z1, e1, o1⟩ := ((eE Tryz.underlying3) : bM enc Tryz.prog w 3 (fun n : Int => [Go.Value.int .i64 n]) (kOk .i64)) _ _ _ g1
  have e0 : [v0, v1, v2] = aK.vals z0 := e0
  simp only [aK.vals, List.cons.injEq, and_true] at e0
  obtain ⟨rfl, rfl, rfl⟩ := e0
  obtain rfl := List.head_eq_of_cons_eq e1
  exact ⟨⟨z0, z1⟩, rfl, ⟨o0, o1⟩⟩
end
structure aN where
 Not : Bool
 Var : List UInt8
 Prefix : bQ
def aN.vals (r : aN) : List Go.Value := [.bool r.Not, .string (bs r.Var), .bool r.Prefix.Addr.V6, .int .u64 r.Prefix.Addr.Hi, .int .u64 r.Prefix.Addr.Lo, .int .i64 r.Prefix.Bits]
structure aN.ok (h : aA) (r : aN) : Prop where
 k0 : bOk h r.Not
 k1 : sOk h r.Var
 k2 : bQ.ok h r.Prefix
theorem aN.ok_fr (h h' : aA) (r : aN) (f : Fr (fun _ => False) h h') (o : aN.ok h r) : aN.ok h' r :=
 ⟨o.k0, o.k1, bQ.ok_fr _ _ _ f o.k2⟩
section
open Go.ChangeShapes Go.WideShapes Go.ChangeAt Go.RowKit
variable {H : Type} {enc : TypeId × Go.Value → H} {w : World}
set_option maxRecDepth 100000 in
theorem aN.op : bM enc Tryz.prog w qE aN.vals aN.ok := fun fuel cs x h => by
 obtain ⟨xs, n, rfl, hx, hl, hxl, hf⟩ := DataW.trod_struct Tryz.underlying139 h
 rw [show Tryz.prog.cellsOf 139 = 6 from by kernel_rfl] at hl
 match xs, hxl, cs, hl with
 | [y0, y1, y2], _, [v0, v1, v2, v3, v4, v5], _ =>
  have g0 : DataW.trod enc Tryz.prog w 0 (fun _ => true) true n 4 (([v0, v1, v2, v3, v4, v5].drop 0).take (Tryz.prog.cellsOf 4)) = some y0 := hf 0 _ rfl
  rw [show Tryz.prog.cellsOf 4 = 1 from by kernel_rfl] at g0
  obtain ⟨z0, e0, o0⟩ := ((nj Tryz.underlying4) : bM enc Tryz.prog w 4 (fun n : Bool => [Go.Value.bool n]) bOk) _ _ _ g0
  have g1 : DataW.trod enc Tryz.prog w 0 (fun _ => true) true n 9 (([v0, v1, v2, v3, v4, v5].drop 1).take (Tryz.prog.cellsOf 9)) = some y1 := hf 1 _ rfl
  rw [show Tryz.prog.cellsOf 9 = 1 from by kernel_rfl] at g1
  obtain ⟨z1, e1, o1⟩ := ((xy Tryz.underlying9) : bM enc Tryz.prog w 9 (fun l : List UInt8 => [Go.Value.string (bs l)]) sOk) _ _ _ g1
  have g2 : DataW.trod enc Tryz.prog w 0 (fun _ => true) true n 137 (([v0, v1, v2, v3, v4, v5].drop 2).take (Tryz.prog.cellsOf 137)) = some y2 := hf 2 _ rfl
  rw [show Tryz.prog.cellsOf 137 = 4 from by kernel_rfl] at g2
  obtain ⟨z2, e2, o2⟩ := (bQ.op : bM enc Tryz.prog w 137 bQ.vals bQ.ok) _ _ _ g2
  obtain rfl := List.head_eq_of_cons_eq e0
  obtain rfl := List.head_eq_of_cons_eq e1
  have e2 : [v2, v3, v4, v5] = bQ.vals z2 := e2
  simp only [bQ.vals, List.cons.injEq, and_true] at e2
  obtain ⟨rfl, rfl, rfl, rfl⟩ := e2
  exact ⟨⟨z0, z1, z2⟩, rfl, ⟨o0, o1, o2⟩⟩
end
structure aL where
 Not : Bool
 Var : List UInt8
 Lo : Int
 Hi : Int
def aL.vals (r : aL) : List Go.Value := [.bool r.Not, .string (bs r.Var), .int .i64 r.Lo, .int .i64 r.Hi]
structure aL.ok (h : aA) (r : aL) : Prop where
 k0 : bOk h r.Not
 k1 : sOk h r.Var
 k2 : (kOk .i64) h r.Lo
 k3 : (kOk .i64) h r.Hi
theorem aL.ok_fr (h h' : aA) (r : aL) (f : Fr (fun _ => False) h h') (o : aL.ok h r) : aL.ok h' r :=
 ⟨o.k0, o.k1, o.k2, o.k3⟩
section
open Go.ChangeShapes Go.WideShapes Go.ChangeAt Go.RowKit
variable {H : Type} {enc : TypeId × Go.Value → H} {w : World}
set_option maxRecDepth 100000 in
theorem aL.op : bM enc Tryz.prog w nK aL.vals aL.ok := fun fuel cs x h => by
 obtain ⟨xs, n, rfl, hx, hl, hxl, hf⟩ := DataW.trod_struct Tryz.underlying142 h
 rw [show Tryz.prog.cellsOf 142 = 4 from by kernel_rfl] at hl
 match xs, hxl, cs, hl with
 | [y0, y1, y2, y3], _, [v0, v1, v2, v3], _ =>
  have g0 : DataW.trod enc Tryz.prog w 0 (fun _ => true) true n 4 (([v0, v1, v2, v3].drop 0).take (Tryz.prog.cellsOf 4)) = some y0 := hf 0 _ rfl
  rw [show Tryz.prog.cellsOf 4 = 1 from by kernel_rfl] at g0
  obtain ⟨z0, e0, o0⟩ := ((nj Tryz.underlying4) : bM enc Tryz.prog w 4 (fun n : Bool => [Go.Value.bool n]) bOk) _ _ _ g0
  have g1 : DataW.trod enc Tryz.prog w 0 (fun _ => true) true n 9 (([v0, v1, v2, v3].drop 1).take (Tryz.prog.cellsOf 9)) = some y1 := hf 1 _ rfl
  rw [show Tryz.prog.cellsOf 9 = 1 from by kernel_rfl] at g1
  obtain ⟨z1, e1, o1⟩ := ((xy Tryz.underlying9) : bM enc Tryz.prog w 9 (fun l : List UInt8 => [Go.Value.string (bs l)]) sOk) _ _ _ g1
  have g2 : DataW.trod enc Tryz.prog w 0 (fun _ => true) true n 3 (([v0, v1, v2, v3].drop 2).take (Tryz.prog.cellsOf 3)) = some y2 := hf 2 _ rfl
  rw [show Tryz.prog.cellsOf 3 = 1 from by kernel_rfl] at g2
  obtain ⟨z2, e2, o2⟩ := ((eE Tryz.underlying3) : bM enc Tryz.prog w 3 (fun n : Int => [Go.Value.int .i64 n]) (kOk .i64)) _ _ _ g2
  have g3 : DataW.trod enc Tryz.prog w 0 (fun _ => true) true n 3 (([v0, v1, v2, v3].drop 3).take (Tryz.prog.cellsOf 3)) = some y3 := hf 3 _ rfl
  rw [show Tryz.prog.cellsOf 3 = 1 from by kernel_rfl] at g3
  obtain ⟨z3, e3, o3⟩ := ((eE Tryz.underlying3) : bM enc Tryz.prog w 3 (fun n : Int => [Go.Value.int .i64 n]) (kOk .i64)) _ _ _ g3
  obtain rfl := List.head_eq_of_cons_eq e0
  obtain rfl := List.head_eq_of_cons_eq e1
  obtain rfl := List.head_eq_of_cons_eq e2
  obtain rfl := List.head_eq_of_cons_eq e3
  exact ⟨⟨z0, z1, z2, z3⟩, rfl, ⟨o0, o1, o2, o3⟩⟩
end
structure aI where
 Pattern : List UInt8
 Nocase : Bool
 Not : Bool
 Relative : Bool
 Offset : Int
 Depth : Int
 Fast : Bool
def aI.vals (r : aI) : List Go.Value := [.string (bs r.Pattern), .bool r.Nocase, .bool r.Not, .bool r.Relative, .int .i64 r.Offset, .int .i64 r.Depth, .bool r.Fast]
structure aI.ok (h : aA) (r : aI) : Prop where
 k0 : sOk h r.Pattern
 k1 : bOk h r.Nocase
 k2 : bOk h r.Not
 k3 : bOk h r.Relative
 k4 : (kOk .i64) h r.Offset
 k5 : (kOk .i64) h r.Depth
 k6 : bOk h r.Fast
theorem aI.ok_fr (h h' : aA) (r : aI) (f : Fr (fun _ => False) h h') (o : aI.ok h r) : aI.ok h' r :=
 ⟨o.k0, o.k1, o.k2, o.k3, o.k4, o.k5, o.k6⟩
section
open Go.ChangeShapes Go.WideShapes Go.ChangeAt Go.RowKit
variable {H : Type} {enc : TypeId × Go.Value → H} {w : World}
set_option maxRecDepth 100000 in
theorem aI.op : bM enc Tryz.prog w ei aI.vals aI.ok := fun fuel cs x h => by
 obtain ⟨xs, n, rfl, hx, hl, hxl, hf⟩ := DataW.trod_struct Tryz.underlying133 h
 rw [show Tryz.prog.cellsOf 133 = 7 from by kernel_rfl] at hl
 match xs, hxl, cs, hl with
 | [y0, y1, y2, y3, y4, y5, y6], _, [v0, v1, v2, v3, v4, v5, v6], _ =>
  have g0 : DataW.trod enc Tryz.prog w 0 (fun _ => true) true n 9 (([v0, v1, v2, v3, v4, v5, v6].drop 0).take (Tryz.prog.cellsOf 9)) = some y0 := hf 0 _ rfl
  rw [show Tryz.prog.cellsOf 9 = 1 from by kernel_rfl] at g0
  obtain ⟨z0, e0, o0⟩ := ((xy Tryz.underlying9) : bM enc Tryz.prog w 9 (fun l : List UInt8 => [Go.Value.string (bs l)]) sOk) _ _ _ g0
  have g1 : DataW.trod enc Tryz.prog w 0 (fun _ => true) true n 4 (([v0, v1, v2, v3, v4, v5, v6].drop 1).take (Tryz.prog.cellsOf 4)) = some y1 := hf 1 _ rfl
  rw [show Tryz.prog.cellsOf 4 = 1 from by kernel_rfl] at g1
  obtain ⟨z1, e1, o1⟩ := ((nj Tryz.underlying4) : bM enc Tryz.prog w 4 (fun n : Bool => [Go.Value.bool n]) bOk) _ _ _ g1
  have g2 : DataW.trod enc Tryz.prog w 0 (fun _ => true) true n 4 (([v0, v1, v2, v3, v4, v5, v6].drop 2).take (Tryz.prog.cellsOf 4)) = some y2 := hf 2 _ rfl
  rw [show Tryz.prog.cellsOf 4 = 1 from by kernel_rfl] at g2
  obtain ⟨z2, e2, o2⟩ := ((nj Tryz.underlying4) : bM enc Tryz.prog w 4 (fun n : Bool => [Go.Value.bool n]) bOk) _ _ _ g2
  have g3 : DataW.trod enc Tryz.prog w 0 (fun _ => true) true n 4 (([v0, v1, v2, v3, v4, v5, v6].drop 3).take (Tryz.prog.cellsOf 4)) = some y3 := hf 3 _ rfl
  rw [show Tryz.prog.cellsOf 4 = 1 from by kernel_rfl] at g3
  obtain ⟨z3, e3, o3⟩ := ((nj Tryz.underlying4) : bM enc Tryz.prog w 4 (fun n : Bool => [Go.Value.bool n]) bOk) _ _ _ g3
  have g4 : DataW.trod enc Tryz.prog w 0 (fun _ => true) true n 3 (([v0, v1, v2, v3, v4, v5, v6].drop 4).take (Tryz.prog.cellsOf 3)) = some y4 := hf 4 _ rfl
  rw [show Tryz.prog.cellsOf 3 = 1 from by kernel_rfl] at g4
  obtain ⟨z4, e4, o4⟩ := ((eE Tryz.underlying3) : bM enc Tryz.prog w 3 (fun n : Int => [Go.Value.int .i64 n]) (kOk .i64)) _ _ _ g4
  have g5 : DataW.trod enc Tryz.prog w 0 (fun _ => true) true n 3 (([v0, v1, v2, v3, v4, v5, v6].drop 5).take (Tryz.prog.cellsOf 3)) = some y5 := hf 5 _ rfl
  rw [show Tryz.prog.cellsOf 3 = 1 from by kernel_rfl] at g5
  obtain ⟨z5, e5, o5⟩ := ((eE Tryz.underlying3) : bM enc Tryz.prog w 3 (fun n : Int => [Go.Value.int .i64 n]) (kOk .i64)) _ _ _ g5
  have g6 : DataW.trod enc Tryz.prog w 0 (fun _ => true) true n 4 (([v0, v1, v2, v3, v4, v5, v6].drop 6).take (Tryz.prog.cellsOf 4)) = some y6 := hf 6 _ rfl
  rw [show Tryz.prog.cellsOf 4 = 1 from by kernel_rfl] at g6
  obtain ⟨z6, e6, o6⟩ := ((nj Tryz.underlying4) : bM enc Tryz.prog w 4 (fun n : Bool => [Go.Value.bool n]) bOk) _ _ _ g6
  obtain rfl := List.head_eq_of_cons_eq e0
  obtain rfl := List.head_eq_of_cons_eq e1
  obtain rfl := List.head_eq_of_cons_eq e2
  obtain rfl := List.head_eq_of_cons_eq e3
  obtain rfl := List.head_eq_of_cons_eq e4
  obtain rfl := List.head_eq_of_cons_eq e5
  obtain rfl := List.head_eq_of_cons_eq e6
  exact ⟨⟨z0, z1, z2, z3, z4, z5, z6⟩, rfl, ⟨o0, o1, o2, o3, o4, o5, o6⟩⟩
end
structure bC where
 Op : Int
 Size : Int
 Value : Int
 Offset : Int
 Relative : Bool
 Little : Bool
 Not : Bool
def bC.vals (r : bC) : List Go.Value := [.int .i64 r.Op, .int .i64 r.Size, .int .i64 r.Value, .int .i64 r.Offset, .bool r.Relative, .bool r.Little, .bool r.Not]
structure bC.ok (h : aA) (r : bC) : Prop where
 k0 : (kOk .i64) h r.Op
 k1 : (kOk .i64) h r.Size
 k2 : (kOk .i64) h r.Value
 k3 : (kOk .i64) h r.Offset
 k4 : bOk h r.Relative
 k5 : bOk h r.Little
 k6 : bOk h r.Not
theorem bC.ok_fr (h h' : aA) (r : bC) (f : Fr (fun _ => False) h h') (o : bC.ok h r) : bC.ok h' r :=
 ⟨o.k0, o.k1, o.k2, o.k3, o.k4, o.k5, o.k6⟩
section
open Go.ChangeShapes Go.WideShapes Go.ChangeAt Go.RowKit
variable {H : Type} {enc : TypeId × Go.Value → H} {w : World}
set_option maxRecDepth 100000 in
theorem bC.op : bM enc Tryz.prog w oK bC.vals bC.ok := fun fuel cs x h => by
 obtain ⟨xs, n, rfl, hx, hl, hxl, hf⟩ := DataW.trod_struct Tryz.underlying146 h
 rw [show Tryz.prog.cellsOf 146 = 7 from by kernel_rfl] at hl
 match xs, hxl, cs, hl with
 | [y0, y1, y2, y3, y4, y5, y6], _, [v0, v1, v2, v3, v4, v5, v6], _ =>
  have g0 : DataW.trod enc Tryz.prog w 0 (fun _ => true) true n 3 (([v0, v1, v2, v3, v4, v5, v6].drop 0).take (Tryz.prog.cellsOf 3)) = some y0 := hf 0 _ rfl
  rw [show Tryz.prog.cellsOf 3 = 1 from by kernel_rfl] at g0
  obtain ⟨z0, e0, o0⟩ := ((eE Tryz.underlying3) : bM enc Tryz.prog w 3 (fun n : Int => [Go.Value.int .i64 n]) (kOk .i64)) _ _ _ g0
  have g1 : DataW.trod enc Tryz.prog w 0 (fun _ => true) true n 3 (([v0, v1, v2, v3, v4, v5, v6].drop 1).take (Tryz.prog.cellsOf 3)) = some y1 := hf 1 _ rfl
  rw [show Tryz.prog.cellsOf 3 = 1 from by kernel_rfl] at g1
  obtain ⟨z1, e1, o1⟩ := ((eE Tryz.underlying3) : bM enc Tryz.prog w 3 (fun n : Int => [Go.Value.int .i64 n]) (kOk .i64)) _ _ _ g1
  have g2 : DataW.trod enc Tryz.prog w 0 (fun _ => true) true n 3 (([v0, v1, v2, v3, v4, v5, v6].drop 2).take (Tryz.prog.cellsOf 3)) = some y2 := hf 2 _ rfl
  rw [show Tryz.prog.cellsOf 3 = 1 from by kernel_rfl] at g2
  obtain ⟨z2, e2, o2⟩ := ((eE Tryz.underlying3) : bM enc Tryz.prog w 3 (fun n : Int => [Go.Value.int .i64 n]) (kOk .i64)) _ _ _ g2
  have g3 : DataW.trod enc Tryz.prog w 0 (fun _ => true) true n 3 (([v0, v1, v2, v3, v4, v5, v6].drop 3).take (Tryz.prog.cellsOf 3)) = some y3 := hf 3 _ rfl
  rw [show Tryz.prog.cellsOf 3 = 1 from by kernel_rfl] at g3
  obtain ⟨z3, e3, o3⟩ := ((eE Tryz.underlying3) : bM enc Tryz.prog w 3 (fun n : Int => [Go.Value.int .i64 n]) (kOk .i64)) _ _ _ g3
  have g4 : DataW.trod enc Tryz.prog w 0 (fun _ => true) true n 4 (([v0, v1, v2, v3, v4, v5, v6].drop 4).take (Tryz.prog.cellsOf 4)) = some y4 := hf 4 _ rfl
  rw [show Tryz.prog.cellsOf 4 = 1 from by kernel_rfl] at g4
  obtain ⟨z4, e4, o4⟩ := ((nj Tryz.underlying4) : bM enc Tryz.prog w 4 (fun n : Bool => [Go.Value.bool n]) bOk) _ _ _ g4
  have g5 : DataW.trod enc Tryz.prog w 0 (fun _ => true) true n 4 (([v0, v1, v2, v3, v4, v5, v6].drop 5).take (Tryz.prog.cellsOf 4)) = some y5 := hf 5 _ rfl
  rw [show Tryz.prog.cellsOf 4 = 1 from by kernel_rfl] at g5
  obtain ⟨z5, e5, o5⟩ := ((nj Tryz.underlying4) : bM enc Tryz.prog w 4 (fun n : Bool => [Go.Value.bool n]) bOk) _ _ _ g5
  have g6 : DataW.trod enc Tryz.prog w 0 (fun _ => true) true n 4 (([v0, v1, v2, v3, v4, v5, v6].drop 6).take (Tryz.prog.cellsOf 4)) = some y6 := hf 6 _ rfl
  rw [show Tryz.prog.cellsOf 4 = 1 from by kernel_rfl] at g6
  obtain ⟨z6, e6, o6⟩ := ((nj Tryz.underlying4) : bM enc Tryz.prog w 4 (fun n : Bool => [Go.Value.bool n]) bOk) _ _ _ g6
  obtain rfl := List.head_eq_of_cons_eq e0
  obtain rfl := List.head_eq_of_cons_eq e1
  obtain rfl := List.head_eq_of_cons_eq e2
  obtain rfl := List.head_eq_of_cons_eq e3
  obtain rfl := List.head_eq_of_cons_eq e4
  obtain rfl := List.head_eq_of_cons_eq e5
  obtain rfl := List.head_eq_of_cons_eq e6
  exact ⟨⟨z0, z1, z2, z3, z4, z5, z6⟩, rfl, ⟨o0, o1, o2, o3, o4, o5, o6⟩⟩
end
structure aZ where
 Op : Int
 Name : List UInt8
def aZ.vals (r : aZ) : List Go.Value := [.int .i64 r.Op, .string (bs r.Name)]
structure aZ.ok (h : aA) (r : aZ) : Prop where
 k0 : (kOk .i64) h r.Op
 k1 : sOk h r.Name
theorem aZ.ok_fr (h h' : aA) (r : aZ) (f : Fr (fun _ => False) h h') (o : aZ.ok h r) : aZ.ok h' r :=
 ⟨o.k0, o.k1⟩
section
open Go.ChangeShapes Go.WideShapes Go.ChangeAt Go.RowKit
variable {H : Type} {enc : TypeId × Go.Value → H} {w : World}
set_option maxRecDepth 100000 in
theorem aZ.op : bM enc Tryz.prog w sR aZ.vals aZ.ok := fun fuel cs x h => by
 obtain ⟨xs, n, rfl, hx, hl, hxl, hf⟩ := DataW.trod_struct Tryz.underlying149 h
 rw [show Tryz.prog.cellsOf 149 = 2 from by kernel_rfl] at hl
 match xs, hxl, cs, hl with
 | [y0, y1], _, [v0, v1], _ =>
  have g0 : DataW.trod enc Tryz.prog w 0 (fun _ => true) true n 3 (([v0, v1].drop 0).take (Tryz.prog.cellsOf 3)) = some y0 := hf 0 _ rfl
  rw [show Tryz.prog.cellsOf 3 = 1 from by kernel_rfl] at g0
  obtain ⟨z0, e0, o0⟩ := ((eE Tryz.underlying3) : bM enc Tryz.prog w 3 (fun n : Int => [Go.Value.int .i64 n]) (kOk .i64)) _ _ _ g0
  have g1 : DataW.trod enc Tryz.prog w 0 (fun _ => true) true n 9 (([v0, v1].drop 1).take (Tryz.prog.cellsOf 9)) = some y1 := hf 1 _ rfl
  rw [show Tryz.prog.cellsOf 9 = 1 from by kernel_rfl] at g1
  obtain ⟨z1, e1, o1⟩ := ((xy Tryz.underlying9) : bM enc Tryz.prog w 9 (fun l : List UInt8 => [Go.Value.string (bs l)]) sOk) _ _ _ g1
  obtain rfl := List.head_eq_of_cons_eq e0
  obtain rfl := List.head_eq_of_cons_eq e1
  exact ⟨⟨z0, z1⟩, rfl, ⟨o0, o1⟩⟩
end
structure bF where
 Kind : Int
 By : Int
 Count : Int
 Seconds : Int
def bF.vals (r : bF) : List Go.Value := [.int .i64 r.Kind, .int .i64 r.By, .int .i64 r.Count, .int .i64 r.Seconds]
structure bF.ok (h : aA) (r : bF) : Prop where
 k0 : (kOk .i64) h r.Kind
 k1 : (kOk .i64) h r.By
 k2 : (kOk .i64) h r.Count
 k3 : (kOk .i64) h r.Seconds
theorem bF.ok_fr (h h' : aA) (r : bF) (f : Fr (fun _ => False) h h') (o : bF.ok h r) : bF.ok h' r :=
 ⟨o.k0, o.k1, o.k2, o.k3⟩
section
open Go.ChangeShapes Go.WideShapes Go.ChangeAt Go.RowKit
variable {H : Type} {enc : TypeId × Go.Value → H} {w : World}
set_option maxRecDepth 100000 in
theorem bF.op : bM enc Tryz.prog w tZ bF.vals bF.ok := fun fuel cs x h => by
 obtain ⟨xs, n, rfl, hx, hl, hxl, hf⟩ := DataW.trod_struct Tryz.underlying59 h
 rw [show Tryz.prog.cellsOf 59 = 4 from by kernel_rfl] at hl
 match xs, hxl, cs, hl with
 | [y0, y1, y2, y3], _, [v0, v1, v2, v3], _ =>
  have g0 : DataW.trod enc Tryz.prog w 0 (fun _ => true) true n 3 (([v0, v1, v2, v3].drop 0).take (Tryz.prog.cellsOf 3)) = some y0 := hf 0 _ rfl
  rw [show Tryz.prog.cellsOf 3 = 1 from by kernel_rfl] at g0
  obtain ⟨z0, e0, o0⟩ := ((eE Tryz.underlying3) : bM enc Tryz.prog w 3 (fun n : Int => [Go.Value.int .i64 n]) (kOk .i64)) _ _ _ g0
  have g1 : DataW.trod enc Tryz.prog w 0 (fun _ => true) true n 3 (([v0, v1, v2, v3].drop 1).take (Tryz.prog.cellsOf 3)) = some y1 := hf 1 _ rfl
  rw [show Tryz.prog.cellsOf 3 = 1 from by kernel_rfl] at g1
  obtain ⟨z1, e1, o1⟩ := ((eE Tryz.underlying3) : bM enc Tryz.prog w 3 (fun n : Int => [Go.Value.int .i64 n]) (kOk .i64)) _ _ _ g1
  have g2 : DataW.trod enc Tryz.prog w 0 (fun _ => true) true n 3 (([v0, v1, v2, v3].drop 2).take (Tryz.prog.cellsOf 3)) = some y2 := hf 2 _ rfl
  rw [show Tryz.prog.cellsOf 3 = 1 from by kernel_rfl] at g2
  obtain ⟨z2, e2, o2⟩ := ((eE Tryz.underlying3) : bM enc Tryz.prog w 3 (fun n : Int => [Go.Value.int .i64 n]) (kOk .i64)) _ _ _ g2
  have g3 : DataW.trod enc Tryz.prog w 0 (fun _ => true) true n 3 (([v0, v1, v2, v3].drop 3).take (Tryz.prog.cellsOf 3)) = some y3 := hf 3 _ rfl
  rw [show Tryz.prog.cellsOf 3 = 1 from by kernel_rfl] at g3
  obtain ⟨z3, e3, o3⟩ := ((eE Tryz.underlying3) : bM enc Tryz.prog w 3 (fun n : Int => [Go.Value.int .i64 n]) (kOk .i64)) _ _ _ g3
  obtain rfl := List.head_eq_of_cons_eq e0
  obtain rfl := List.head_eq_of_cons_eq e1
  obtain rfl := List.head_eq_of_cons_eq e2
  obtain rfl := List.head_eq_of_cons_eq e3
  exact ⟨⟨z0, z1, z2, z3⟩, rfl, ⟨o0, o1, o2, o3⟩⟩
end
structure aO where
 Action : Int
 Proto : Int
 Src : Sl aN
 Dst : Sl aN
 SrcPorts : Sl aL
 DstPorts : Sl aL
 Both : Bool
 Sid : Int
 Rev : Int
 Priority : Int
 Msg : List UInt8
 Dir : Int
 Kind : Int
 Transforms : Sl Int
 Contents : Sl aI
 Tests : Sl bC
 Flow : Sl aZ
 Threshold : bF
def aO.vals (r : aO) : List Go.Value := [.int .i64 r.Action, .int .i64 r.Proto, .slice r.Src.p r.Src.xs.length r.Src.cap, .slice r.Dst.p r.Dst.xs.length r.Dst.cap, .slice r.SrcPorts.p r.SrcPorts.xs.length r.SrcPorts.cap, .slice r.DstPorts.p r.DstPorts.xs.length r.DstPorts.cap, .bool r.Both, .int .i64 r.Sid, .int .i64 r.Rev, .int .i64 r.Priority, .string (bs r.Msg), .int .i64 r.Dir, .int .i64 r.Kind, .slice r.Transforms.p r.Transforms.xs.length r.Transforms.cap, .slice r.Contents.p r.Contents.xs.length r.Contents.cap, .slice r.Tests.p r.Tests.xs.length r.Tests.cap, .slice r.Flow.p r.Flow.xs.length r.Flow.cap, .int .i64 r.Threshold.Kind, .int .i64 r.Threshold.By, .int .i64 r.Threshold.Count, .int .i64 r.Threshold.Seconds]
structure aO.ok (h : aA) (r : aO) : Prop where
 k0 : (kOk .i64) h r.Action
 k1 : (kOk .i64) h r.Proto
 k2 : (bJ 6 aN.vals aN.ok) h r.Src
 k3 : (bJ 6 aN.vals aN.ok) h r.Dst
 k4 : (bJ 4 aL.vals aL.ok) h r.SrcPorts
 k5 : (bJ 4 aL.vals aL.ok) h r.DstPorts
 k6 : bOk h r.Both
 k7 : (kOk .i64) h r.Sid
 k8 : (kOk .i64) h r.Rev
 k9 : (kOk .i64) h r.Priority
 k10 : sOk h r.Msg
 k11 : (kOk .i64) h r.Dir
 k12 : (kOk .i64) h r.Kind
 k13 : (bJ 1 (fun n : Int => [Go.Value.int .i64 n]) (kOk .i64)) h r.Transforms
 k14 : (bJ 7 aI.vals aI.ok) h r.Contents
 k15 : (bJ 7 bC.vals bC.ok) h r.Tests
 k16 : (bJ 2 aZ.vals aZ.ok) h r.Flow
 k17 : bF.ok h r.Threshold
theorem aO.ok_fr (h h' : aA) (r : aO) (f : Fr (fun _ => False) h h') (o : aO.ok h r) : aO.ok h' r :=
 ⟨o.k0, o.k1, (py aN.ok_fr) _ _ _ f o.k2, (py aN.ok_fr) _ _ _ f o.k3, (py aL.ok_fr) _ _ _ f o.k4, (py aL.ok_fr) _ _ _ f o.k5, o.k6, o.k7, o.k8, o.k9, o.k10, o.k11, o.k12, (py yA) _ _ _ f o.k13, (py aI.ok_fr) _ _ _ f o.k14, (py bC.ok_fr) _ _ _ f o.k15, (py aZ.ok_fr) _ _ _ f o.k16, bF.ok_fr _ _ _ f o.k17⟩
section
open Go.ChangeShapes Go.WideShapes Go.ChangeAt Go.RowKit
variable {H : Type} {enc : TypeId × Go.Value → H} {w : World}
set_option maxRecDepth 100000 in
theorem aO.op : bM enc Tryz.prog w cO aO.vals aO.ok := fun fuel cs x h => by
 obtain ⟨xs, n, rfl, hx, hl, hxl, hf⟩ := DataW.trod_struct Tryz.underlying61 h
 rw [show Tryz.prog.cellsOf 61 = 21 from by kernel_rfl] at hl
 match xs, hxl, cs, hl with
 | [y0, y1, y2, y3, y4, y5, y6, y7, y8, y9, y10, y11, y12, y13, y14, y15, y16, y17], _, [v0, v1, v2, v3, v4, v5, v6, v7, v8, v9, v10, v11, v12, v13, v14, v15, v16, v17, v18, v19, v20], _ =>
  have g0 : DataW.trod enc Tryz.prog w 0 (fun _ => true) true n 3 (([v0, v1, v2, v3, v4, v5, v6, v7, v8, v9, v10, v11, v12, v13, v14, v15, v16, v17, v18, v19, v20].drop 0).take (Tryz.prog.cellsOf 3)) = some y0 := hf 0 _ rfl
  rw [show Tryz.prog.cellsOf 3 = 1 from by kernel_rfl] at g0
  obtain ⟨z0, e0, o0⟩ := ((eE Tryz.underlying3) : bM enc Tryz.prog w 3 (fun n : Int => [Go.Value.int .i64 n]) (kOk .i64)) _ _ _ g0
  have g1 : DataW.trod enc Tryz.prog w 0 (fun _ => true) true n 3 (([v0, v1, v2, v3, v4, v5, v6, v7, v8, v9, v10, v11, v12, v13, v14, v15, v16, v17, v18, v19, v20].drop 1).take (Tryz.prog.cellsOf 3)) = some y1 := hf 1 _ rfl
  rw [show Tryz.prog.cellsOf 3 = 1 from by kernel_rfl] at g1
  obtain ⟨z1, e1, o1⟩ := ((eE Tryz.underlying3) : bM enc Tryz.prog w 3 (fun n : Int => [Go.Value.int .i64 n]) (kOk .i64)) _ _ _ g1
  have g2 : DataW.trod enc Tryz.prog w 0 (fun _ => true) true n 53 (([v0, v1, v2, v3, v4, v5, v6, v7, v8, v9, v10, v11, v12, v13, v14, v15, v16, v17, v18, v19, v20].drop 2).take (Tryz.prog.cellsOf 53)) = some y2 := hf 2 _ rfl
  rw [show Tryz.prog.cellsOf 53 = 1 from by kernel_rfl] at g2
  obtain ⟨z2, e2, o2⟩ := ((r8 Tryz.underlying53 (by kernel_rfl) (fun _ => rfl) aN.op) : bM enc Tryz.prog w 53 (fun s : Sl aN => [s.v]) (bJ 6 aN.vals aN.ok)) _ _ _ g2
  have g3 : DataW.trod enc Tryz.prog w 0 (fun _ => true) true n 53 (([v0, v1, v2, v3, v4, v5, v6, v7, v8, v9, v10, v11, v12, v13, v14, v15, v16, v17, v18, v19, v20].drop 3).take (Tryz.prog.cellsOf 53)) = some y3 := hf 3 _ rfl
  rw [show Tryz.prog.cellsOf 53 = 1 from by kernel_rfl] at g3
  obtain ⟨z3, e3, o3⟩ := ((r8 Tryz.underlying53 (by kernel_rfl) (fun _ => rfl) aN.op) : bM enc Tryz.prog w 53 (fun s : Sl aN => [s.v]) (bJ 6 aN.vals aN.ok)) _ _ _ g3
  have g4 : DataW.trod enc Tryz.prog w 0 (fun _ => true) true n 54 (([v0, v1, v2, v3, v4, v5, v6, v7, v8, v9, v10, v11, v12, v13, v14, v15, v16, v17, v18, v19, v20].drop 4).take (Tryz.prog.cellsOf 54)) = some y4 := hf 4 _ rfl
  rw [show Tryz.prog.cellsOf 54 = 1 from by kernel_rfl] at g4
  obtain ⟨z4, e4, o4⟩ := ((r8 Tryz.underlying54 (by kernel_rfl) (fun _ => rfl) aL.op) : bM enc Tryz.prog w 54 (fun s : Sl aL => [s.v]) (bJ 4 aL.vals aL.ok)) _ _ _ g4
  have g5 : DataW.trod enc Tryz.prog w 0 (fun _ => true) true n 54 (([v0, v1, v2, v3, v4, v5, v6, v7, v8, v9, v10, v11, v12, v13, v14, v15, v16, v17, v18, v19, v20].drop 5).take (Tryz.prog.cellsOf 54)) = some y5 := hf 5 _ rfl
  rw [show Tryz.prog.cellsOf 54 = 1 from by kernel_rfl] at g5
  obtain ⟨z5, e5, o5⟩ := ((r8 Tryz.underlying54 (by kernel_rfl) (fun _ => rfl) aL.op) : bM enc Tryz.prog w 54 (fun s : Sl aL => [s.v]) (bJ 4 aL.vals aL.ok)) _ _ _ g5
  have g6 : DataW.trod enc Tryz.prog w 0 (fun _ => true) true n 4 (([v0, v1, v2, v3, v4, v5, v6, v7, v8, v9, v10, v11, v12, v13, v14, v15, v16, v17, v18, v19, v20].drop 6).take (Tryz.prog.cellsOf 4)) = some y6 := hf 6 _ rfl
  rw [show Tryz.prog.cellsOf 4 = 1 from by kernel_rfl] at g6
  obtain ⟨z6, e6, o6⟩ := ((nj Tryz.underlying4) : bM enc Tryz.prog w 4 (fun n : Bool => [Go.Value.bool n]) bOk) _ _ _ g6
  have g7 : DataW.trod enc Tryz.prog w 0 (fun _ => true) true n 3 (([v0, v1, v2, v3, v4, v5, v6, v7, v8, v9, v10, v11, v12, v13, v14, v15, v16, v17, v18, v19, v20].drop 7).take (Tryz.prog.cellsOf 3)) = some y7 := hf 7 _ rfl
  rw [show Tryz.prog.cellsOf 3 = 1 from by kernel_rfl] at g7
  obtain ⟨z7, e7, o7⟩ := ((eE Tryz.underlying3) : bM enc Tryz.prog w 3 (fun n : Int => [Go.Value.int .i64 n]) (kOk .i64)) _ _ _ g7
  have g8 : DataW.trod enc Tryz.prog w 0 (fun _ => true) true n 3 (([v0, v1, v2, v3, v4, v5, v6, v7, v8, v9, v10, v11, v12, v13, v14, v15, v16, v17, v18, v19, v20].drop 8).take (Tryz.prog.cellsOf 3)) = some y8 := hf 8 _ rfl
  rw [show Tryz.prog.cellsOf 3 = 1 from by kernel_rfl] at g8
  obtain ⟨z8, e8, o8⟩ := ((eE Tryz.underlying3) : bM enc Tryz.prog w 3 (fun n : Int => [Go.Value.int .i64 n]) (kOk .i64)) _ _ _ g8
  have g9 : DataW.trod enc Tryz.prog w 0 (fun _ => true) true n 3 (([v0, v1, v2, v3, v4, v5, v6, v7, v8, v9, v10, v11, v12, v13, v14, v15, v16, v17, v18, v19, v20].drop 9).take (Tryz.prog.cellsOf 3)) = some y9 := hf 9 _ rfl
  rw [show Tryz.prog.cellsOf 3 = 1 from by kernel_rfl] at g9
  obtain ⟨z9, e9, o9⟩ := ((eE Tryz.underlying3) : bM enc Tryz.prog w 3 (fun n : Int => [Go.Value.int .i64 n]) (kOk .i64)) _ _ _ g9
  have g10 : DataW.trod enc Tryz.prog w 0 (fun _ => true) true n 9 (([v0, v1, v2, v3, v4, v5, v6, v7, v8, v9, v10, v11, v12, v13, v14, v15, v16, v17, v18, v19, v20].drop 10).take (Tryz.prog.cellsOf 9)) = some y10 := hf 10 _ rfl
  rw [show Tryz.prog.cellsOf 9 = 1 from by kernel_rfl] at g10
  obtain ⟨z10, e10, o10⟩ := ((xy Tryz.underlying9) : bM enc Tryz.prog w 9 (fun l : List UInt8 => [Go.Value.string (bs l)]) sOk) _ _ _ g10
  have g11 : DataW.trod enc Tryz.prog w 0 (fun _ => true) true n 3 (([v0, v1, v2, v3, v4, v5, v6, v7, v8, v9, v10, v11, v12, v13, v14, v15, v16, v17, v18, v19, v20].drop 11).take (Tryz.prog.cellsOf 3)) = some y11 := hf 11 _ rfl
  rw [show Tryz.prog.cellsOf 3 = 1 from by kernel_rfl] at g11
  obtain ⟨z11, e11, o11⟩ := ((eE Tryz.underlying3) : bM enc Tryz.prog w 3 (fun n : Int => [Go.Value.int .i64 n]) (kOk .i64)) _ _ _ g11
  have g12 : DataW.trod enc Tryz.prog w 0 (fun _ => true) true n 3 (([v0, v1, v2, v3, v4, v5, v6, v7, v8, v9, v10, v11, v12, v13, v14, v15, v16, v17, v18, v19, v20].drop 12).take (Tryz.prog.cellsOf 3)) = some y12 := hf 12 _ rfl
  rw [show Tryz.prog.cellsOf 3 = 1 from by kernel_rfl] at g12
  obtain ⟨z12, e12, o12⟩ := ((eE Tryz.underlying3) : bM enc Tryz.prog w 3 (fun n : Int => [Go.Value.int .i64 n]) (kOk .i64)) _ _ _ g12
  have g13 : DataW.trod enc Tryz.prog w 0 (fun _ => true) true n 46 (([v0, v1, v2, v3, v4, v5, v6, v7, v8, v9, v10, v11, v12, v13, v14, v15, v16, v17, v18, v19, v20].drop 13).take (Tryz.prog.cellsOf 46)) = some y13 := hf 13 _ rfl
  rw [show Tryz.prog.cellsOf 46 = 1 from by kernel_rfl] at g13
  obtain ⟨z13, e13, o13⟩ := ((r8 Tryz.underlying46 (by kernel_rfl) (fun _ => rfl) (eE Tryz.underlying3)) : bM enc Tryz.prog w 46 (fun s : Sl Int => [s.v]) (bJ 1 (fun n : Int => [Go.Value.int .i64 n]) (kOk .i64))) _ _ _ g13
  have g14 : DataW.trod enc Tryz.prog w 0 (fun _ => true) true n 55 (([v0, v1, v2, v3, v4, v5, v6, v7, v8, v9, v10, v11, v12, v13, v14, v15, v16, v17, v18, v19, v20].drop 14).take (Tryz.prog.cellsOf 55)) = some y14 := hf 14 _ rfl
  rw [show Tryz.prog.cellsOf 55 = 1 from by kernel_rfl] at g14
  obtain ⟨z14, e14, o14⟩ := ((r8 Tryz.underlying55 (by kernel_rfl) (fun _ => rfl) aI.op) : bM enc Tryz.prog w 55 (fun s : Sl aI => [s.v]) (bJ 7 aI.vals aI.ok)) _ _ _ g14
  have g15 : DataW.trod enc Tryz.prog w 0 (fun _ => true) true n 56 (([v0, v1, v2, v3, v4, v5, v6, v7, v8, v9, v10, v11, v12, v13, v14, v15, v16, v17, v18, v19, v20].drop 15).take (Tryz.prog.cellsOf 56)) = some y15 := hf 15 _ rfl
  rw [show Tryz.prog.cellsOf 56 = 1 from by kernel_rfl] at g15
  obtain ⟨z15, e15, o15⟩ := ((r8 Tryz.underlying56 (by kernel_rfl) (fun _ => rfl) bC.op) : bM enc Tryz.prog w 56 (fun s : Sl bC => [s.v]) (bJ 7 bC.vals bC.ok)) _ _ _ g15
  have g16 : DataW.trod enc Tryz.prog w 0 (fun _ => true) true n 57 (([v0, v1, v2, v3, v4, v5, v6, v7, v8, v9, v10, v11, v12, v13, v14, v15, v16, v17, v18, v19, v20].drop 16).take (Tryz.prog.cellsOf 57)) = some y16 := hf 16 _ rfl
  rw [show Tryz.prog.cellsOf 57 = 1 from by kernel_rfl] at g16
  obtain ⟨z16, e16, o16⟩ := ((r8 Tryz.underlying57 (by kernel_rfl) (fun _ => rfl) aZ.op) : bM enc Tryz.prog w 57 (fun s : Sl aZ => [s.v]) (bJ 2 aZ.vals aZ.ok)) _ _ _ g16
  have g17 : DataW.trod enc Tryz.prog w 0 (fun _ => true) true n 59 (([v0, v1, v2, v3, v4, v5, v6, v7, v8, v9, v10, v11, v12, v13, v14, v15, v16, v17, v18, v19, v20].drop 17).take (Tryz.prog.cellsOf 59)) = some y17 := hf 17 _ rfl
  rw [show Tryz.prog.cellsOf 59 = 4 from by kernel_rfl] at g17
  obtain ⟨z17, e17, o17⟩ := (bF.op : bM enc Tryz.prog w 59 bF.vals bF.ok) _ _ _ g17
  obtain rfl := List.head_eq_of_cons_eq e0
  obtain rfl := List.head_eq_of_cons_eq e1
  obtain rfl := List.head_eq_of_cons_eq e2
  obtain rfl := List.head_eq_of_cons_eq e3
  obtain rfl := List.head_eq_of_cons_eq e4
  obtain rfl := List.head_eq_of_cons_eq e5
  obtain rfl := List.head_eq_of_cons_eq e6
  obtain rfl := List.head_eq_of_cons_eq e7
  obtain rfl := List.head_eq_of_cons_eq e8
  obtain rfl := List.head_eq_of_cons_eq e9
  obtain rfl := List.head_eq_of_cons_eq e10
  obtain rfl := List.head_eq_of_cons_eq e11
  obtain rfl := List.head_eq_of_cons_eq e12
  obtain rfl := List.head_eq_of_cons_eq e13
  obtain rfl := List.head_eq_of_cons_eq e14
  obtain rfl := List.head_eq_of_cons_eq e15
  obtain rfl := List.head_eq_of_cons_eq e16
  have e17 : [v17, v18, v19, v20] = bF.vals z17 := e17
  simp only [bF.vals, List.cons.injEq, and_true] at e17
  obtain ⟨rfl, rfl, rfl, rfl⟩ := e17
  exact ⟨⟨z0, z1, z2, z3, z4, z5, z6, z7, z8, z9, z10, z11, z12, z13, z14, z15, z16, z17⟩, rfl, ⟨o0, o1, o2, o3, o4, o5, o6, o7, o8, o9, o10, o11, o12, o13, o14, o15, o16, o17⟩⟩
end
structure aM where
 Lo : aK
 Hi : aK
def aM.vals (r : aM) : List Go.Value := [.bool r.Lo.V6, .int .u64 r.Lo.Hi, .int .u64 r.Lo.Lo, .bool r.Hi.V6, .int .u64 r.Hi.Hi, .int .u64 r.Hi.Lo]
structure aM.ok (h : aA) (r : aM) : Prop where
 k0 : aK.ok h r.Lo
 k1 : aK.ok h r.Hi
theorem aM.ok_fr (h h' : aA) (r : aM) (f : Fr (fun _ => False) h h') (o : aM.ok h r) : aM.ok h' r :=
 ⟨aK.ok_fr _ _ _ f o.k0, aK.ok_fr _ _ _ f o.k1⟩
section
open Go.ChangeShapes Go.WideShapes Go.ChangeAt Go.RowKit
variable {H : Type} {enc : TypeId × Go.Value → H} {w : World}
set_option maxRecDepth 100000 in
theorem aM.op : bM enc Tryz.prog w m8 aM.vals aM.ok := fun fuel cs x h => by
 obtain ⟨xs, n, rfl, hx, hl, hxl, hf⟩ := DataW.trod_struct Tryz.underlying152 h
 rw [show Tryz.prog.cellsOf 152 = 6 from by kernel_rfl] at hl
 match xs, hxl, cs, hl with
 | [y0, y1], _, [v0, v1, v2, v3, v4, v5], _ =>
  have g0 : DataW.trod enc Tryz.prog w 0 (fun _ => true) true n 25 (([v0, v1, v2, v3, v4, v5].drop 0).take (Tryz.prog.cellsOf 25)) = some y0 := hf 0 _ rfl
  rw [show Tryz.prog.cellsOf 25 = 3 from by kernel_rfl] at g0
  obtain ⟨z0, e0, o0⟩ := (aK.op : bM enc Tryz.prog w 25 aK.vals aK.ok) _ _ _ g0
  have g1 : DataW.trod enc Tryz.prog w 0 (fun _ => true) true n 25 (([v0, v1, v2, v3, v4, v5].drop 3).take (Tryz.prog.cellsOf 25)) = some y1 := hf 1 _ rfl
  rw [show Tryz.prog.cellsOf 25 = 3 from by kernel_rfl] at g1
  obtain ⟨z1, e1, o1⟩ := (aK.op : bM enc Tryz.prog w 25 aK.vals aK.ok) _ _ _ g1
  have e0 : [v0, v1, v2] = aK.vals z0 := e0
  simp only [aK.vals, List.cons.injEq, and_true] at e0
  obtain ⟨rfl, rfl, rfl⟩ := e0
  have e1 : [v3, v4, v5] = aK.vals z1 := e1
  simp only [aK.vals, List.cons.injEq, and_true] at e1
  obtain ⟨rfl, rfl, rfl⟩ := e1
  exact ⟨⟨z0, z1⟩, rfl, ⟨o0, o1⟩⟩
end
structure aP where
 Lo : Int
 Hi : Int
def aP.vals (r : aP) : List Go.Value := [.int .i64 r.Lo, .int .i64 r.Hi]
structure aP.ok (h : aA) (r : aP) : Prop where
 k0 : (kOk .i64) h r.Lo
 k1 : (kOk .i64) h r.Hi
theorem aP.ok_fr (h h' : aA) (r : aP) (f : Fr (fun _ => False) h h') (o : aP.ok h r) : aP.ok h' r :=
 ⟨o.k0, o.k1⟩
section
open Go.ChangeShapes Go.WideShapes Go.ChangeAt Go.RowKit
variable {H : Type} {enc : TypeId × Go.Value → H} {w : World}
set_option maxRecDepth 100000 in
theorem aP.op : bM enc Tryz.prog w qN aP.vals aP.ok := fun fuel cs x h => by
 obtain ⟨xs, n, rfl, hx, hl, hxl, hf⟩ := DataW.trod_struct Tryz.underlying155 h
 rw [show Tryz.prog.cellsOf 155 = 2 from by kernel_rfl] at hl
 match xs, hxl, cs, hl with
 | [y0, y1], _, [v0, v1], _ =>
  have g0 : DataW.trod enc Tryz.prog w 0 (fun _ => true) true n 3 (([v0, v1].drop 0).take (Tryz.prog.cellsOf 3)) = some y0 := hf 0 _ rfl
  rw [show Tryz.prog.cellsOf 3 = 1 from by kernel_rfl] at g0
  obtain ⟨z0, e0, o0⟩ := ((eE Tryz.underlying3) : bM enc Tryz.prog w 3 (fun n : Int => [Go.Value.int .i64 n]) (kOk .i64)) _ _ _ g0
  have g1 : DataW.trod enc Tryz.prog w 0 (fun _ => true) true n 3 (([v0, v1].drop 1).take (Tryz.prog.cellsOf 3)) = some y1 := hf 1 _ rfl
  rw [show Tryz.prog.cellsOf 3 = 1 from by kernel_rfl] at g1
  obtain ⟨z1, e1, o1⟩ := ((eE Tryz.underlying3) : bM enc Tryz.prog w 3 (fun n : Int => [Go.Value.int .i64 n]) (kOk .i64)) _ _ _ g1
  obtain rfl := List.head_eq_of_cons_eq e0
  obtain rfl := List.head_eq_of_cons_eq e1
  exact ⟨⟨z0, z1⟩, rfl, ⟨o0, o1⟩⟩
end
structure aF where
 Rule : aO
 Src : Sl aM
 Dst : Sl aM
 SrcPorts : Sl aP
 DstPorts : Sl aP
def aF.vals (r : aF) : List Go.Value := [.int .i64 r.Rule.Action, .int .i64 r.Rule.Proto, .slice r.Rule.Src.p r.Rule.Src.xs.length r.Rule.Src.cap, .slice r.Rule.Dst.p r.Rule.Dst.xs.length r.Rule.Dst.cap, .slice r.Rule.SrcPorts.p r.Rule.SrcPorts.xs.length r.Rule.SrcPorts.cap, .slice r.Rule.DstPorts.p r.Rule.DstPorts.xs.length r.Rule.DstPorts.cap, .bool r.Rule.Both, .int .i64 r.Rule.Sid, .int .i64 r.Rule.Rev, .int .i64 r.Rule.Priority, .string (bs r.Rule.Msg), .int .i64 r.Rule.Dir, .int .i64 r.Rule.Kind, .slice r.Rule.Transforms.p r.Rule.Transforms.xs.length r.Rule.Transforms.cap, .slice r.Rule.Contents.p r.Rule.Contents.xs.length r.Rule.Contents.cap, .slice r.Rule.Tests.p r.Rule.Tests.xs.length r.Rule.Tests.cap, .slice r.Rule.Flow.p r.Rule.Flow.xs.length r.Rule.Flow.cap, .int .i64 r.Rule.Threshold.Kind, .int .i64 r.Rule.Threshold.By, .int .i64 r.Rule.Threshold.Count, .int .i64 r.Rule.Threshold.Seconds, .slice r.Src.p r.Src.xs.length r.Src.cap, .slice r.Dst.p r.Dst.xs.length r.Dst.cap, .slice r.SrcPorts.p r.SrcPorts.xs.length r.SrcPorts.cap, .slice r.DstPorts.p r.DstPorts.xs.length r.DstPorts.cap]
structure aF.ok (h : aA) (r : aF) : Prop where
 k0 : aO.ok h r.Rule
 k1 : (bJ 6 aM.vals aM.ok) h r.Src
 k2 : (bJ 6 aM.vals aM.ok) h r.Dst
 k3 : (bJ 2 aP.vals aP.ok) h r.SrcPorts
 k4 : (bJ 2 aP.vals aP.ok) h r.DstPorts
theorem aF.ok_fr (h h' : aA) (r : aF) (f : Fr (fun _ => False) h h') (o : aF.ok h r) : aF.ok h' r :=
 ⟨aO.ok_fr _ _ _ f o.k0, (py aM.ok_fr) _ _ _ f o.k1, (py aM.ok_fr) _ _ _ f o.k2, (py aP.ok_fr) _ _ _ f o.k3, (py aP.ok_fr) _ _ _ f o.k4⟩
section
open Go.ChangeShapes Go.WideShapes Go.ChangeAt Go.RowKit
variable {H : Type} {enc : TypeId × Go.Value → H} {w : World}
set_option maxRecDepth 100000 in
theorem aF.op : bM enc Tryz.prog w cF aF.vals aF.ok := fun fuel cs x h => by
 obtain ⟨xs, n, rfl, hx, hl, hxl, hf⟩ := DataW.trod_struct Tryz.underlying65 h
 rw [show Tryz.prog.cellsOf 65 = 25 from by kernel_rfl] at hl
 match xs, hxl, cs, hl with
 | [y0, y1, y2, y3, y4], _, [v0, v1, v2, v3, v4, v5, v6, v7, v8, v9, v10, v11, v12, v13, v14, v15, v16, v17, v18, v19, v20, v21, v22, v23, v24], _ =>
  have g0 : DataW.trod enc Tryz.prog w 0 (fun _ => true) true n 61 (([v0, v1, v2, v3, v4, v5, v6, v7, v8, v9, v10, v11, v12, v13, v14, v15, v16, v17, v18, v19, v20, v21, v22, v23, v24].drop 0).take (Tryz.prog.cellsOf 61)) = some y0 := hf 0 _ rfl
  rw [show Tryz.prog.cellsOf 61 = 21 from by kernel_rfl] at g0
  obtain ⟨z0, e0, o0⟩ := (aO.op : bM enc Tryz.prog w 61 aO.vals aO.ok) _ _ _ g0
  have g1 : DataW.trod enc Tryz.prog w 0 (fun _ => true) true n 62 (([v0, v1, v2, v3, v4, v5, v6, v7, v8, v9, v10, v11, v12, v13, v14, v15, v16, v17, v18, v19, v20, v21, v22, v23, v24].drop 21).take (Tryz.prog.cellsOf 62)) = some y1 := hf 1 _ rfl
  rw [show Tryz.prog.cellsOf 62 = 1 from by kernel_rfl] at g1
  obtain ⟨z1, e1, o1⟩ := ((r8 Tryz.underlying62 (by kernel_rfl) (fun _ => rfl) aM.op) : bM enc Tryz.prog w 62 (fun s : Sl aM => [s.v]) (bJ 6 aM.vals aM.ok)) _ _ _ g1
  have g2 : DataW.trod enc Tryz.prog w 0 (fun _ => true) true n 62 (([v0, v1, v2, v3, v4, v5, v6, v7, v8, v9, v10, v11, v12, v13, v14, v15, v16, v17, v18, v19, v20, v21, v22, v23, v24].drop 22).take (Tryz.prog.cellsOf 62)) = some y2 := hf 2 _ rfl
  rw [show Tryz.prog.cellsOf 62 = 1 from by kernel_rfl] at g2
  obtain ⟨z2, e2, o2⟩ := ((r8 Tryz.underlying62 (by kernel_rfl) (fun _ => rfl) aM.op) : bM enc Tryz.prog w 62 (fun s : Sl aM => [s.v]) (bJ 6 aM.vals aM.ok)) _ _ _ g2
  have g3 : DataW.trod enc Tryz.prog w 0 (fun _ => true) true n 63 (([v0, v1, v2, v3, v4, v5, v6, v7, v8, v9, v10, v11, v12, v13, v14, v15, v16, v17, v18, v19, v20, v21, v22, v23, v24].drop 23).take (Tryz.prog.cellsOf 63)) = some y3 := hf 3 _ rfl
  rw [show Tryz.prog.cellsOf 63 = 1 from by kernel_rfl] at g3
  obtain ⟨z3, e3, o3⟩ := ((r8 Tryz.underlying63 (by kernel_rfl) (fun _ => rfl) aP.op) : bM enc Tryz.prog w 63 (fun s : Sl aP => [s.v]) (bJ 2 aP.vals aP.ok)) _ _ _ g3
  have g4 : DataW.trod enc Tryz.prog w 0 (fun _ => true) true n 63 (([v0, v1, v2, v3, v4, v5, v6, v7, v8, v9, v10, v11, v12, v13, v14, v15, v16, v17, v18, v19, v20, v21, v22, v23, v24].drop 24).take (Tryz.prog.cellsOf 63)) = some y4 := hf 4 _ rfl
  rw [show Tryz.prog.cellsOf 63 = 1 from by kernel_rfl] at g4
  obtain ⟨z4, e4, o4⟩ := ((r8 Tryz.underlying63 (by kernel_rfl) (fun _ => rfl) aP.op) : bM enc Tryz.prog w 63 (fun s : Sl aP => [s.v]) (bJ 2 aP.vals aP.ok)) _ _ _ g4
  have e0 : [v0, v1, v2, v3, v4, v5, v6, v7, v8, v9, v10, v11, v12, v13, v14, v15, v16, v17, v18, v19, v20] = aO.vals z0 := e0
  simp only [aO.vals, List.cons.injEq, and_true] at e0
  obtain ⟨rfl, rfl, rfl, rfl, rfl, rfl, rfl, rfl, rfl, rfl, rfl, rfl, rfl, rfl, rfl, rfl, rfl, rfl, rfl, rfl, rfl⟩ := e0
  obtain rfl := List.head_eq_of_cons_eq e1
  obtain rfl := List.head_eq_of_cons_eq e2
  obtain rfl := List.head_eq_of_cons_eq e3
  obtain rfl := List.head_eq_of_cons_eq e4
  exact ⟨⟨z0, z1, z2, z3, z4⟩, rfl, ⟨o0, o1, o2, o3, o4⟩⟩
end
structure aT where
 Proto : Int
 Src : aK
 Dst : aK
 Sport : Int
 Dport : Int
def aT.vals (r : aT) : List Go.Value := [.int .i64 r.Proto, .bool r.Src.V6, .int .u64 r.Src.Hi, .int .u64 r.Src.Lo, .bool r.Dst.V6, .int .u64 r.Dst.Hi, .int .u64 r.Dst.Lo, .int .i64 r.Sport, .int .i64 r.Dport]
structure aT.ok (h : aA) (r : aT) : Prop where
 k0 : (kOk .i64) h r.Proto
 k1 : aK.ok h r.Src
 k2 : aK.ok h r.Dst
 k3 : (kOk .i64) h r.Sport
 k4 : (kOk .i64) h r.Dport
section
open Go.ChangeShapes Go.WideShapes Go.ChangeAt Go.RowKit
variable {H : Type} {enc : TypeId × Go.Value → H} {w : World}
set_option maxRecDepth 100000 in
theorem aT.op : bM enc Tryz.prog w lu aT.vals aT.ok := fun fuel cs x h => by
 obtain ⟨xs, n, rfl, hx, hl, hxl, hf⟩ := DataW.trod_struct Tryz.underlying27 h
 rw [show Tryz.prog.cellsOf 27 = 9 from by kernel_rfl] at hl
 match xs, hxl, cs, hl with
 | [y0, y1, y2, y3, y4], _, [v0, v1, v2, v3, v4, v5, v6, v7, v8], _ =>
  have g0 : DataW.trod enc Tryz.prog w 0 (fun _ => true) true n 3 (([v0, v1, v2, v3, v4, v5, v6, v7, v8].drop 0).take (Tryz.prog.cellsOf 3)) = some y0 := hf 0 _ rfl
  rw [show Tryz.prog.cellsOf 3 = 1 from by kernel_rfl] at g0
  obtain ⟨z0, e0, o0⟩ := ((eE Tryz.underlying3) : bM enc Tryz.prog w 3 (fun n : Int => [Go.Value.int .i64 n]) (kOk .i64)) _ _ _ g0
  have g1 : DataW.trod enc Tryz.prog w 0 (fun _ => true) true n 25 (([v0, v1, v2, v3, v4, v5, v6, v7, v8].drop 1).take (Tryz.prog.cellsOf 25)) = some y1 := hf 1 _ rfl
  rw [show Tryz.prog.cellsOf 25 = 3 from by kernel_rfl] at g1
  obtain ⟨z1, e1, o1⟩ := (aK.op : bM enc Tryz.prog w 25 aK.vals aK.ok) _ _ _ g1
  have g2 : DataW.trod enc Tryz.prog w 0 (fun _ => true) true n 25 (([v0, v1, v2, v3, v4, v5, v6, v7, v8].drop 4).take (Tryz.prog.cellsOf 25)) = some y2 := hf 2 _ rfl
  rw [show Tryz.prog.cellsOf 25 = 3 from by kernel_rfl] at g2
  obtain ⟨z2, e2, o2⟩ := (aK.op : bM enc Tryz.prog w 25 aK.vals aK.ok) _ _ _ g2
  have g3 : DataW.trod enc Tryz.prog w 0 (fun _ => true) true n 3 (([v0, v1, v2, v3, v4, v5, v6, v7, v8].drop 7).take (Tryz.prog.cellsOf 3)) = some y3 := hf 3 _ rfl
  rw [show Tryz.prog.cellsOf 3 = 1 from by kernel_rfl] at g3
  obtain ⟨z3, e3, o3⟩ := ((eE Tryz.underlying3) : bM enc Tryz.prog w 3 (fun n : Int => [Go.Value.int .i64 n]) (kOk .i64)) _ _ _ g3
  have g4 : DataW.trod enc Tryz.prog w 0 (fun _ => true) true n 3 (([v0, v1, v2, v3, v4, v5, v6, v7, v8].drop 8).take (Tryz.prog.cellsOf 3)) = some y4 := hf 4 _ rfl
  rw [show Tryz.prog.cellsOf 3 = 1 from by kernel_rfl] at g4
  obtain ⟨z4, e4, o4⟩ := ((eE Tryz.underlying3) : bM enc Tryz.prog w 3 (fun n : Int => [Go.Value.int .i64 n]) (kOk .i64)) _ _ _ g4
  obtain rfl := List.head_eq_of_cons_eq e0
  have e1 : [v1, v2, v3] = aK.vals z1 := e1
  simp only [aK.vals, List.cons.injEq, and_true] at e1
  obtain ⟨rfl, rfl, rfl⟩ := e1
  have e2 : [v4, v5, v6] = aK.vals z2 := e2
  simp only [aK.vals, List.cons.injEq, and_true] at e2
  obtain ⟨rfl, rfl, rfl⟩ := e2
  obtain rfl := List.head_eq_of_cons_eq e3
  obtain rfl := List.head_eq_of_cons_eq e4
  exact ⟨⟨z0, z1, z2, z3, z4⟩, rfl, ⟨o0, o1, o2, o3, o4⟩⟩
end
structure bU where
 Kind : Int
 Dir : Int
 Index : Int
 Data : List UInt8
def bU.vals (r : bU) : List Go.Value := [.int .i64 r.Kind, .int .i64 r.Dir, .int .i64 r.Index, .string (bs r.Data)]
structure bU.ok (h : aA) (r : bU) : Prop where
 k0 : (kOk .i64) h r.Kind
 k1 : (kOk .i64) h r.Dir
 k2 : (kOk .i64) h r.Index
 k3 : sOk h r.Data
section
open Go.ChangeShapes Go.WideShapes Go.ChangeAt Go.RowKit
variable {H : Type} {enc : TypeId × Go.Value → H} {w : World}
set_option maxRecDepth 100000 in
theorem bU.op : bM enc Tryz.prog w qk bU.vals bU.ok := fun fuel cs x h => by
 obtain ⟨xs, n, rfl, hx, hl, hxl, hf⟩ := DataW.trod_struct Tryz.underlying51 h
 rw [show Tryz.prog.cellsOf 51 = 4 from by kernel_rfl] at hl
 match xs, hxl, cs, hl with
 | [y0, y1, y2, y3], _, [v0, v1, v2, v3], _ =>
  have g0 : DataW.trod enc Tryz.prog w 0 (fun _ => true) true n 3 (([v0, v1, v2, v3].drop 0).take (Tryz.prog.cellsOf 3)) = some y0 := hf 0 _ rfl
  rw [show Tryz.prog.cellsOf 3 = 1 from by kernel_rfl] at g0
  obtain ⟨z0, e0, o0⟩ := ((eE Tryz.underlying3) : bM enc Tryz.prog w 3 (fun n : Int => [Go.Value.int .i64 n]) (kOk .i64)) _ _ _ g0
  have g1 : DataW.trod enc Tryz.prog w 0 (fun _ => true) true n 3 (([v0, v1, v2, v3].drop 1).take (Tryz.prog.cellsOf 3)) = some y1 := hf 1 _ rfl
  rw [show Tryz.prog.cellsOf 3 = 1 from by kernel_rfl] at g1
  obtain ⟨z1, e1, o1⟩ := ((eE Tryz.underlying3) : bM enc Tryz.prog w 3 (fun n : Int => [Go.Value.int .i64 n]) (kOk .i64)) _ _ _ g1
  have g2 : DataW.trod enc Tryz.prog w 0 (fun _ => true) true n 3 (([v0, v1, v2, v3].drop 2).take (Tryz.prog.cellsOf 3)) = some y2 := hf 2 _ rfl
  rw [show Tryz.prog.cellsOf 3 = 1 from by kernel_rfl] at g2
  obtain ⟨z2, e2, o2⟩ := ((eE Tryz.underlying3) : bM enc Tryz.prog w 3 (fun n : Int => [Go.Value.int .i64 n]) (kOk .i64)) _ _ _ g2
  have g3 : DataW.trod enc Tryz.prog w 0 (fun _ => true) true n 9 (([v0, v1, v2, v3].drop 3).take (Tryz.prog.cellsOf 9)) = some y3 := hf 3 _ rfl
  rw [show Tryz.prog.cellsOf 9 = 1 from by kernel_rfl] at g3
  obtain ⟨z3, e3, o3⟩ := ((xy Tryz.underlying9) : bM enc Tryz.prog w 9 (fun l : List UInt8 => [Go.Value.string (bs l)]) sOk) _ _ _ g3
  obtain rfl := List.head_eq_of_cons_eq e0
  obtain rfl := List.head_eq_of_cons_eq e1
  obtain rfl := List.head_eq_of_cons_eq e2
  obtain rfl := List.head_eq_of_cons_eq e3
  exact ⟨⟨z0, z1, z2, z3⟩, rfl, ⟨o0, o1, o2, o3⟩⟩
end
structure bK where
 Text : List UInt8
 Nocase : Bool
def bK.vals (r : bK) : List Go.Value := [.string (bs r.Text), .bool r.Nocase]
structure bK.ok (h : aA) (r : bK) : Prop where
 k0 : sOk h r.Text
 k1 : bOk h r.Nocase
theorem bK.ok_fr (h h' : aA) (r : bK) (f : Fr (fun _ => False) h h') (o : bK.ok h r) : bK.ok h' r :=
 ⟨o.k0, o.k1⟩
structure bI where
 Kind : Int
 Transforms : Sl Int
 Patterns : Sl bK
 Rules : Sl (Sl Int)
 Always : Sl Int
def bI.vals (r : bI) : List Go.Value := [.int .i64 r.Kind, .slice r.Transforms.p r.Transforms.xs.length r.Transforms.cap, .slice r.Patterns.p r.Patterns.xs.length r.Patterns.cap, .slice r.Rules.p r.Rules.xs.length r.Rules.cap, .slice r.Always.p r.Always.xs.length r.Always.cap]
structure bI.ok (h : aA) (r : bI) : Prop where
 k0 : (kOk .i64) h r.Kind
 k1 : (bJ 1 (fun n : Int => [Go.Value.int .i64 n]) (kOk .i64)) h r.Transforms
 k2 : (bJ 2 bK.vals bK.ok) h r.Patterns
 k3 : (bJ 1 (fun s : Sl Int => [s.v]) (bJ 1 (fun n : Int => [Go.Value.int .i64 n]) (kOk .i64))) h r.Rules
 k4 : (bJ 1 (fun n : Int => [Go.Value.int .i64 n]) (kOk .i64)) h r.Always
theorem bI.ok_fr (h h' : aA) (r : bI) (f : Fr (fun _ => False) h h') (o : bI.ok h r) : bI.ok h' r :=
 ⟨o.k0, (py yA) _ _ _ f o.k1, (py bK.ok_fr) _ _ _ f o.k2, (py (py yA)) _ _ _ f o.k3, (py yA) _ _ _ f o.k4⟩
end Go.Proofs.YtjmfpeiidlpngaaGreatDoor
namespace Go.Proofs.YtjmfpeiidlpngaaGreatDoor.Au
set_option linter.unusedSimpArgs false
set_option linter.unusedVariables false
set_option maxRecDepth 20000
open Go
open Go.IntKind (wrap)
abbrev Cn := aI
abbrev Ts := bC
def wb (d : Nm) (p k : Nat) : Nm := (d.drop p).take k
def atB (c : Cn) (d : Nm) (p : Int) : Bool :=
 decide (0 ≤ p ∧ p + c.Pattern.length ≤ d.length) && (if c.Nocase = true then decide (cI (wb d p.toNat c.Pattern.length) = cI c.Pattern) else decide (wb d p.toNat c.Pattern.length = c.Pattern))
theorem DY [Gh] (c : Int) (h0 : 0 ≤ c) (h1 : c ≤ 255) {h : aA} {Q : Value → aA → Prop} (hk : Q (.int .u8 (u5 c)) h) : aE Tryz.prog lS #[.int .u8 c] h Q := by
 apply yx
 unfold uk
 unfold u5 at hk
 refine ifD (fun e => ifD (fun e2 => ?_) fun e2 => ?_) fun e => ?_
 ·rw [if_pos ⟨e, e2⟩] at hk
  rw [wrb (x := c + 97) (by omega) (by omega), wrb (by omega) (by omega)]
  have : c + 97 - 65 = c + 32 := by omega
  rw [this]; exact hk
 ·rw [if_neg (by omega)] at hk; exact hk
 ·rw [if_neg (by omega)] at hk; exact hk
theorem K6 {a b : Nm} (i : Nat) (ha : i < a.length) (hb : i < b.length) (h : bP (iC a[i]) ≠ bP (iC b[i])) : cI a ≠ cI b := fun e => by
 have h1 : (cI a)[i]? = (cI b)[i]? := by rw [e]
 unfold cI at h1
 rw [List.getElem?_map, List.getElem?_map, List.getElem?_eq_getElem ha, List.getElem?_eq_getElem hb] at h1
 exact h (congrArg bP (Option.some.inj h1))
theorem LQ [Gh] (c : Cn) (d : Nm) (p : Int) (hc : c.Pattern.length ≤ 2 ^ 40) (hd : d.length ≤ 2 ^ 40) {h : aA} {Q : Value → aA → Prop} (hk : ∀ h', Fr (fun _ => False) h h' → Q (.bool (atB c d p)) h') :
  aE Tryz.prog rQ #[.agg c.vals.toArray, .string (bs d), .int .i64 p] h Q := by
 apply BZ
 unfold xm
 refine bA (vs := c.vals) fun t3 h1 f1 e1 o1 => ?_
 have cc : bB h1 t3 c.vals := o1.cells
 have hk := hk h1 f1
 unfold atB at hk
 have no : ¬ (0 ≤ p ∧ p + c.Pattern.length ≤ d.length) → Q (.bool false) h1 := fun hn => by
  rw [decide_eq_false hn, Bool.false_and] at hk; exact hk
 rw [bN]
 refine ifD (fun e => no (by omega)) fun e => ifD (fun e2 => no (by omega)) fun e2 => ?_
 refine aY (cc.at0 rfl) ?_
 rw [bN, wr (by omega) (by omega)]
 refine ifD (fun e3 => no (by omega)) fun e3 => ?_
 ·have hfit : p + c.Pattern.length ≤ d.length := by omega
  rw [decide_eq_true ⟨by omega, hfit⟩, Bool.true_and] at hk
  refine aY (cc.at0 rfl) ?_
  rw [bN, wr (by omega) (by omega)]
  obtain ⟨q, rfl⟩ : ∃ q : Nat, p = q := ⟨p.toNat, by omega⟩
  refine slS d q (q + c.Pattern.length) rfl (by omega) (by omega) (by omega) ?_
  rw [Nat.add_sub_cancel_left]
  rw [Int.toNat_natCast] at hk
  have hpl : (wb d q c.Pattern.length).length = c.Pattern.length := by unfold wb; rw [List.length_take, List.length_drop]; omega
  rw [show (d.drop q).take c.Pattern.length = wb d q c.Pattern.length from rfl]
  generalize wb d q c.Pattern.length = part at *
  refine aG (cc.at (j := 1) rfl) (ifN (fun e3 => ?_) fun e3 => ?_)
  ·rw [if_neg (by rw [e3]; decide)] at hk
   refine aY (cc.at0 rfl) (Qeq hk ?_)
   rw [j5, j5]
   congr 1
   rw [Bool.eq_iff_iff, decide_eq_true_iff, beq_iff_eq]
  ·rw [if_pos e3] at hk
   rw [bN]
   refine aJ.go (fun n st h' => ∃ i : Nat, st = (i : Int) ∧ i ≤ part.length ∧ n = part.length - i ∧ h' = h1 ∧ (cI part).take i = (cI c.Pattern).take i) part.length ⟨0, rfl, by omega, rfl, rfl, rfl⟩ ?_
   rintro n - h2 ⟨i, rfl, hi, rfl, rfl, he⟩ Kn hK
   unfold rS
   refine ifD (fun e4 => ?_) fun e4 => ?_
   ·have hil : i < part.length := by omega
    refine ixS part i rfl hil (aY (cc.at0 rfl) (ixS c.Pattern i rfl (by omega) ?_))
    have b1 := nh part[i]
    have b2 := nh c.Pattern[i]
    refine DY _ b1.1 b1.2 ⟨_, rfl, aY (cc.at0 rfl) rfl, DY _ b2.1 b2.2 ⟨_, rfl, ?_⟩⟩
    rw [← oM, ← oM]
    refine oS (fun e5 => ?_) fun e5 => ?_
    ·rw [decide_eq_false (K6 i hil (by omega) e5)] at hk; exact hk
    ·rw [wr (by omega) (by omega)]
     refine hK (part.length - (i + 1)) _ _ (by omega) ⟨i + 1, rfl, hil, rfl, rfl, ?_⟩
     have hb := xN e5
     rw [vn, vn] at he ⊢
     rw [show part.take (i + 1) = part.take i ++ [part[i]] by rw [List.take_append_getElem], show c.Pattern.take (i + 1) = c.Pattern.take i ++ [c.Pattern[i]'(by omega)] by rw [List.take_append_getElem]]
     unfold cI at he ⊢
     rw [List.map_append, List.map_append, he]
     simp only [List.map_cons, List.map_nil]
     rw [hb]
   ·have : i = part.length := by omega
    subst this
    rw [List.take_of_length_le (by rw [jq]; exact Nat.le_refl _), List.take_of_length_le (by rw [jq]; omega)] at he
    rw [decide_eq_true he] at hk; exact hk
structure OkC (c : Cn) : Prop where
 p : c.Pattern.length ≤ 2 ^ 20
 o1 : -1073741824 ≤ c.Offset
 o2 : c.Offset ≤ 1073741824
 d1 : 0 ≤ c.Depth
 d2 : c.Depth ≤ 1073741824
def loL (c : Cn) (cur : Int) : Int := if c.Relative = true then c.Offset + cur else c.Offset
def hiL (c : Cn) (size cur : Int) : Int := if c.Depth = 0 then size else if size < loL c cur + c.Depth then size else loL c cur + c.Depth
def D1 (c : Cn) (cur : Int) : Int := if 0 > loL c cur then 0 else loL c cur
def jb (c : Cn) (size cur : Int) : Int × Int := if hiL c size cur - c.Pattern.length < D1 c cur then (0, -1) else (D1 c cur, hiL c size cur - c.Pattern.length)
theorem Hv [Gh] (c : Cn) (size cur : Int) (ok : OkC c) (hs : 0 ≤ size ∧ size ≤ 2147483648) (hcur : 0 ≤ cur ∧ cur ≤ 2147483648) {h : aA} {Q : Value → aA → Prop}
  (hk : ∀ h', Fr (fun _ => False) h h' → Q (.tuple #[.int .i64 (jb c size cur).1, .int .i64 (jb c size cur).2]) h') :
  aE Tryz.prog jy #[.agg c.vals.toArray, .int .i64 size, .int .i64 cur] h Q := by
 apply xM
 unfold sw
 refine bA (vs := c.vals) fun t3 h1 f1 e1 o1 => ?_
 have cc : bB h1 t3 c.vals := o1.cells
 have hk := hk h1 f1
 have k1 := ok.o1
 have k2 := ok.o2
 have k3 := ok.d1
 have k4 := ok.d2
 have k5 := ok.p
 have hlo : -1073741824 ≤ loL c cur ∧ loL c cur ≤ 3221225472 := by unfold loL; split <;> omega
 have b2 : ∀ hi, -1073741824 ≤ hi → hi ≤ 2147483648 → hi = hiL c size cur → jB t3 (loL c cur) hi Q h1 := fun hi h2 h3 he => by
  unfold jB
  unfold jb D1 at hk
  rw [← he] at hk
  refine aY (cc.at0 rfl) ?_
  rw [bN, wr (x := hi - ((c.Pattern.length : Nat) : Int)) (by omega) (by omega)]
  refine ifD (fun e => ?_) fun e => ?_
  ·rw [if_pos e] at hk; exact hk
  ·rw [if_neg e] at hk
   refine aY (cc.at0 rfl) ?_
   rw [bN, wr (x := hi - ((c.Pattern.length : Nat) : Int)) (by omega) (by omega)]
   exact hk
 have b1 : jz size t3 (loL c cur) Q h1 := by
  unfold jz
  refine aB (cc.at (j := 5) rfl) (oS (fun e => aB (cc.at (j := 5) rfl) ?_) fun e => ?_)
  ·rw [wr (by omega) (by omega)]
   refine b2 _ ?_ ?_ ?_
   ·split <;> omega
   ·split <;> omega
   ·unfold hiL; rw [if_neg e]
  ·exact b2 _ (by omega) (by omega) (by unfold hiL; rw [if_pos e])
 refine aB (cc.at (j := 4) rfl) (aG (cc.at (j := 3) rfl) (ifB (fun e => ?_) fun e => ?_))
 ·rw [wr (by omega) (by omega)]
  have : loL c cur = c.Offset + cur := by unfold loL; rw [if_pos e]
  rw [← this]; exact b1
 ·have : loL c cur = c.Offset := by unfold loL; rw [if_neg (by rw [e]; decide)]
  rw [← this]; exact b1
def atT (t : Ts) (cur : Int) : Int := if t.Relative = true then t.Offset + cur else t.Offset
def DI (d : Nm) (a n : Nat) (little : Bool) : Nat → Nat
 | 0 => 0
 | i + 1 => DI d a n little i * 256 + (d.getD (a + (if little = true then n - 1 - i else i)) 0).toNat
theorem E3 (d : Nm) (a n : Nat) (little : Bool) : ∀ i, DI d a n little i < 256 ^ i
 | 0 => by simp [DI]
 | i + 1 => by
  have := E3 d a n little i
  have h2 := (d.getD (a + (if little = true then n - 1 - i else i)) 0).toNat_lt
  rw [DI, Nat.pow_succ]; omega
def Lw (n v : Int) : Bool := (wrap .i64 (BitVec.toNat (BitVec.ofInt (IntKind.bits .i64) n &&& BitVec.ofInt (IntKind.bits .i64) v) : Int)) != (0 : Int)
def opL (t : Ts) (n : Int) : Bool :=
 if t.Op = 1 then !(decide (n < t.Value) == t.Not)
 else if t.Op = 2 then !((n == t.Value) == t.Not)
 else if t.Op = 3 then !(decide (n > t.Value) == t.Not)
 else if t.Op = 4 then !(Lw n t.Value == t.Not)
 else false
def Ia (t : Ts) (d : Nm) (cur : Int) : Prop := (t.Size = 1 ∨ t.Size = 2 ∨ t.Size = 4) ∧ 0 ≤ atT t cur ∧ atT t cur + t.Size ≤ d.length
instance (t : Ts) (d : Nm) (cur : Int) : Decidable (Ia t d cur) := by unfold Ia; exact inferInstance
def vU (t : Ts) (d : Nm) (cur : Int) : Bool := if Ia t d cur then opL t (DI d (atT t cur).toNat t.Size.toNat t.Little t.Size.toNat : Nat) else false
theorem Kj (n b : Nat) (hn : n < 2 ^ 24) (hb : b < 256) :
  wrap .i64 (BitVec.toNat (BitVec.ofInt (IntKind.bits .i64) (wrap .i64 ((n : Int) * 2 ^ (min (Int.toNat (8 : Int)) (IntKind.bits .i64)))) ||| BitVec.ofInt (IntKind.bits .i64) (wrap .i64 (b : Int))) : Int) = ((n * 256 + b : Nat) : Int) := by
 have e1 : (2 : Int) ^ (min (Int.toNat (8 : Int)) (IntKind.bits .i64)) = 256 := rfl
 have e2 : (n : Int) * 256 = ((n * 256 : Nat) : Int) := by omega
 rw [e1, e2, wr (x := ((n * 256 : Nat) : Int)) (by omega) (by omega), wr (x := ((b : Nat) : Int)) (by omega) (by omega), BitVec.ofInt_natCast, BitVec.ofInt_natCast, BitVec.toNat_or, BitVec.toNat_ofNat, BitVec.toNat_ofNat]
 have e3 : n * 256 % 2 ^ (IntKind.bits .i64) = n * 256 := Nat.mod_eq_of_lt (by show _ < 2 ^ 64; omega)
 have e4 : b % 2 ^ (IntKind.bits .i64) = b := Nat.mod_eq_of_lt (by show _ < 2 ^ 64; omega)
 have e5 : (n * 256) ||| b = n * 256 + b := by
  have := Nat.two_pow_add_eq_or_of_lt (i := 8) (b := b) hb n
  rw [show 2 ^ 8 * n = n * 256 by omega] at this
  exact this.symm
 rw [e3, e4, e5, wr (by omega) (by omega)]
structure OkT (t : Ts) : Prop where
 o1 : -1073741824 ≤ t.Offset
 o2 : t.Offset ≤ 1073741824
theorem sU {d : Nm} {i : Nat} (h : i < d.length) : d.getD i 0 = d[i] := by rw [List.getD_eq_getElem?_getD, List.getElem?_eq_getElem h]; rfl
theorem KT [Gh] (t : Ts) (d : Nm) (cur : Int) (ok : OkT t) (hcur : 0 ≤ cur ∧ cur ≤ 2147483648) (hd : d.length ≤ 2 ^ 30) {h : aA} {Q : Value → aA → Prop}
  (hk : ∀ h', Fr (fun _ => False) h h' → Q (.bool (vU t d cur)) h') :
  aE Tryz.prog pJ #[.agg t.vals.toArray, .string (bs d), .int .i64 cur] h Q := by
 apply Ad
 unfold ve
 refine bA (vs := t.vals) fun t3 h1 f1 e1 o1 => ?_
 have cc : bB h1 t3 t.vals := o1.cells
 have hk := hk h1 f1
 have k1 := ok.o1
 have k2 := ok.o2
 have hat : -1073741824 ≤ atT t cur ∧ atT t cur ≤ 3221225472 := by unfold atT; split <;> omega
 have no : ¬ Ia t d cur → Q (.bool false) h1 := fun hn => by
  unfold vU at hk
  rw [if_neg hn] at hk; exact hk
 have rest : (t.Size = 1 ∨ t.Size = 2 ∨ t.Size = 4) → (if decide (atT t cur < 0) = true then Q (.bool false) h1 else if decide (atT t cur > ((d.length : Nat) : Int)) = true then Q (.bool false) h1 else
   ldI h1 (Addr.add t3 1) .i64 fun t48 => if (decide ((wrap .i64 (((d.length : Nat) : Int) - atT t cur)) < t48)) = true then (Q (.bool false) h1) else (ldI h1 (Addr.add t3 1) .i64 fun t52 => aJ (fun (s : Int × Int) h Kn => jj (bs d) t3 (atT t cur) t52 Q s.1 s.2 h Kn) (0, 0) h1)) := fun hsz => by
  refine ifD (fun e => no fun hf => by have := hf.2.1; omega) fun e => ifD (fun e2 => no fun hf => by have := hf.2.2; rcases hsz with h | h | h <;> omega) fun e2 => ?_
  refine aB (cc.at (j := 1) rfl) ?_
  rw [wr (by omega) (by omega)]
  refine ifD (fun e3 => no fun hf => by have := hf.2.2; omega) fun e3 => ?_
  refine aB (cc.at (j := 1) rfl) ?_
  have hf : Ia t d cur := ⟨hsz, by omega, by omega⟩
  unfold vU at hk
  rw [if_pos hf] at hk
  obtain ⟨a, ha⟩ : ∃ a : Nat, atT t cur = a := ⟨(atT t cur).toNat, by omega⟩
  obtain ⟨n, hn⟩ : ∃ n : Nat, t.Size = n := ⟨t.Size.toNat, by omega⟩
  rw [ha, hn] at hk e3 ⊢
  rw [hn] at hsz
  have hfit : a + n ≤ d.length := by omega
  have hn4 : n ≤ 4 := by omega
  rw [Int.toNat_natCast, Int.toNat_natCast] at hk
  refine aJ.go (fun m st h' => ∃ i : Nat, st.2 = (i : Int) ∧ st.1 = ((DI d a n t.Little i : Nat) : Int) ∧ i ≤ n ∧ m = n - i ∧ h' = h1) n ⟨0, rfl, rfl, by omega, rfl, rfl⟩ ?_
  rintro m ⟨x, y⟩ h2 ⟨i, e4, e5, hi, rfl, rfl⟩ Kn hK
  dsimp only at e4 e5
  subst e4 e5
  dsimp only
  unfold jj
  have hlt := E3 d a n t.Little i
  refine ifD (fun e6 => ?_) fun e6 => ?_
  ·have hil : i < n := by omega
   have hp : 256 ^ i ≤ 256 ^ 3 := Nat.pow_le_pow_right (by omega) (by omega)
   have b3 : ∀ k : Nat, k < n → k = (if t.Little = true then n - 1 - i else i) → kJ (bs d) t3 (a : Int) ((DI d a n t.Little i : Nat) : Int) (k : Int) (n : Int) (i : Int) Q Kn h2 := fun k hk1 hk2 => by
    unfold kJ
    rw [wr (x := (a : Int) + (k : Int)) (by omega) (by omega)]
    refine ⟨by decide, ixS d (a + k) (by omega) (by omega) ?_⟩
    have hb := (d[a + k]'(by omega)).toNat_lt
    unfold bP
    rw [Kj _ _ (by omega) hb, wr (by omega) (by omega)]
    refine hK (n - (i + 1)) _ _ (by omega) ⟨i + 1, rfl, ?_, hil, rfl, rfl⟩
    show _ = ((DI d a n t.Little i * 256 + (d.getD (a + (if t.Little = true then n - 1 - i else i)) 0).toNat : Nat) : Int)
    rw [← hk2, sU (by omega)]
   refine aG (cc.at (j := 5) rfl) (ifB (fun e7 => ?_) fun e7 => ?_)
   ·refine aB (n := (n : Int)) (by rw [← hn]; exact cc.at (j := 1) rfl) ?_
    rw [wr (x := (n : Int) - 1) (by omega) (by omega), wr (by omega) (by omega), show (n : Int) - 1 - (i : Int) = ((n - 1 - i : Nat) : Int) by omega]
    exact b3 _ (by omega) (by rw [if_pos e7])
   ·exact b3 _ hil (by rw [if_neg (by rw [e7]; decide)])
  ·have : i = n := by omega
   subst this
   unfold pS
   unfold opL at hk
   have b5 : ∀ ok : Bool, Q (.bool (!(ok == t.Not))) h2 → gY t3 ok Q h2 := fun ok hq => by
    unfold gY
    exact aG (cc.at (j := 6) rfl) hq
   refine aB (cc.at0 rfl) (ifE (fun e7 => ?_) fun e7 => ?_)
   ·rw [if_pos e7] at hk
    exact aB (cc.at (j := 2) rfl) (b5 _ hk)
   rw [if_neg e7] at hk
   refine ifE (fun e7 => ?_) fun e7 => ?_
   ·rw [if_pos e7] at hk
    exact aB (cc.at (j := 2) rfl) (b5 _ hk)
   rw [if_neg e7] at hk
   refine ifE (fun e7 => ?_) fun e7 => ?_
   ·rw [if_pos e7] at hk
    exact aB (cc.at (j := 2) rfl) (b5 _ hk)
   rw [if_neg e7] at hk
   refine ifE (fun e7 => ?_) fun e7 => ?_
   ·rw [if_pos e7] at hk
    exact aB (cc.at (j := 2) rfl) (b5 _ hk)
   rw [if_neg e7] at hk
   exact hk
 have b1 : kL (bs d) t3 (atT t cur) Q h1 := by
  unfold kL
  rw [bN]
  refine aB (cc.at (j := 1) rfl) (oS (fun e => aB (cc.at (j := 1) rfl) (oS (fun e2 => aB (cc.at (j := 1) rfl) (oS (fun e3 => ?_) fun e3 => ?_)) fun e2 => ?_)) fun e => ?_)
  ·exact no fun hf => by
    rcases hf.1 with h | h | h
    ·exact e h
    ·exact e2 h
    ·exact e3 h
  ·exact rest (.inr (.inr e3))
  ·exact rest (.inr (.inl e2))
  ·exact rest (.inl e)
 refine aB (cc.at (j := 3) rfl) (aG (cc.at (j := 4) rfl) (ifB (fun e => ?_) fun e => ?_))
 ·rw [wr (by omega) (by omega)]
  have : atT t cur = t.Offset + cur := by unfold atT; rw [if_pos e]
  rw [← this]; exact b1
 ·have : atT t cur = t.Offset := by unfold atT; rw [if_neg (by rw [e]; decide)]
  rw [← this]; exact b1
end Go.Proofs.YtjmfpeiidlpngaaGreatDoor.Au
namespace Go.Proofs.YtjmfpeiidlpngaaGreatDoor.Au
set_option linter.unusedSimpArgs false
set_option linter.unusedVariables false
set_option maxRecDepth 20000
open Go
open Go.IntKind (wrap)
def zg (a : aK) : Bool := a.V6 || (a.Hi == 0 && decide (a.Lo ≤ 4294967295))
def ltA (a b : aK) : Bool := if a.V6 ≠ b.V6 then b.V6 else if a.Hi ≠ b.Hi then decide (a.Hi < b.Hi) else decide (a.Lo < b.Lo)
def Ic (r : aM) : Bool := zg r.Lo && (zg r.Hi && ((r.Lo.V6 == r.Hi.V6) && !ltA r.Hi r.Lo))
def inR (a : aK) (r : aM) : Bool := Ic r && ((r.Lo.V6 == a.V6) && (!ltA a r.Lo && !ltA r.Hi a))
def Jh (l : List aM) (a : aK) : Bool := zg a && l.any (inR a)
def IZ (l : List aP) (n : Int) : Bool := decide (0 ≤ n ∧ n ≤ 4294967296) && l.any fun x => decide (x.Lo ≤ n) && decide (n ≤ x.Hi)
def Bs (b : aF) (s d : aK) (sp dp : Int) : Bool := Jh b.Src.xs s && (IZ b.SrcPorts.xs sp && (Jh b.Dst.xs d && IZ b.DstPorts.xs dp))
def iU (b : aF) (f : aT) (dir : Int) : Bool :=
 decide (b.Rule.Proto = f.Proto ∧ (dir = 1 ∨ dir = 2) ∧ (b.Rule.Dir = 0 ∨ b.Rule.Dir = dir)) && (Bs b f.Src f.Dst f.Sport f.Dport || (b.Rule.Both && Bs b f.Dst f.Src f.Dport f.Sport))
def eqA (a b : aK) : Bool := (a.V6 == b.V6) && ((a.Hi == b.Hi) && (a.Lo == b.Lo))
theorem yP {a b : aK} : eqA a b = true ↔ a = b := by
 obtain ⟨v1, x1, y1⟩ := a
 obtain ⟨v2, x2, y2⟩ := b
 unfold eqA
 simp
def I7 (a b : aK) : Int := if eqA a b = true then 0 else if ltA a b = true then -1 else 1
theorem JW (a : aK) : ltA a a = false := by
 unfold ltA
 rw [if_neg (fun h => h rfl), if_neg (fun h => h rfl)]
 exact decide_eq_false (Int.lt_irrefl _)
theorem Ll {a b : aK} (h : a.V6 ≠ b.V6) : ltA a b = b.V6 := by unfold ltA; rw [if_pos h]
theorem IC {a b : aK} (h : a.V6 = b.V6) (hx : a.Hi ≠ b.Hi) : ltA a b = decide (a.Hi < b.Hi) := by unfold ltA; rw [if_neg (fun hh => hh h), if_pos hx]
theorem HL {a b : aK} (h : a.V6 = b.V6) (hx : a.Hi = b.Hi) : ltA a b = decide (a.Lo < b.Lo) := by unfold ltA; rw [if_neg (fun hh => hh h), if_neg (fun hh => hh hx)]
theorem EA (a b : aK) : decide (I7 a b ≤ 0) = !ltA b a := by
 unfold I7
 by_cases h : a = b
 ·subst h; rw [if_pos (yP.2 rfl), JW]; rfl
 rw [if_neg (fun hh => h (yP.1 hh))]
 by_cases hv : a.V6 = b.V6
 ·by_cases hx : a.Hi = b.Hi
  ·have hy : a.Lo ≠ b.Lo := fun e => h (by
    obtain ⟨v1, x1, y1⟩ := a
    obtain ⟨v2, x2, y2⟩ := b
    obtain rfl : v1 = v2 := hv
    obtain rfl : x1 = x2 := hx
    obtain rfl : y1 = y2 := e
    rfl)
   rw [HL hv hx, HL hv.symm hx.symm]
   by_cases hl : a.Lo < b.Lo
   ·rw [decide_eq_true hl, if_pos rfl, decide_eq_false (p := b.Lo < a.Lo) (by omega)]; rfl
   ·rw [decide_eq_false hl, if_neg (by decide), decide_eq_true (p := b.Lo < a.Lo) (by omega)]; rfl
  ·rw [IC hv hx, IC hv.symm (Ne.symm hx)]
   by_cases hl : a.Hi < b.Hi
   ·rw [decide_eq_true hl, if_pos rfl, decide_eq_false (p := b.Hi < a.Hi) (by omega)]; rfl
   ·rw [decide_eq_false hl, if_neg (by decide), decide_eq_true (p := b.Hi < a.Hi) (by omega)]; rfl
 ·rw [Ll hv, Ll (Ne.symm hv)]
  revert hv
  cases a.V6 <;> cases b.V6 <;> intro hv <;> first | exact absurd rfl hv | rfl
section
variable {h : aA} {Q : Value → aA → Prop}
theorem zc [Gh] (a : aK) (hk : ∀ h', Fr (fun _ => False) h h' → Q (.bool (zg a)) h') : aE Tryz.prog jT #[.agg a.vals.toArray] h Q := by
 apply yC
 unfold ui
 refine bA (vs := a.vals) fun t1 h1 f1 e1 o1 => ?_
 have c1 : bB h1 t1 a.vals := o1.cells
 have hk := hk h1 f1
 unfold zg at hk
 refine aG (c1.at0 rfl) (ifB (fun e => ?_) fun e => aB (c1.at (j := 1) rfl) (ifE (fun e2 => aB (c1.at (j := 2) rfl) ?_) fun e2 => ?_))
 ·rw [e] at hk; exact hk
 ·rw [e, e2] at hk; simpa using hk
 ·rw [e, Bool.false_or, beq_eq_false_iff_ne.2 e2, Bool.false_and] at hk; exact hk
theorem xG [Gh] (a b : aK) (hk : ∀ h', Fr (fun _ => False) h h' → Q (.int .i64 (I7 a b)) h') : aE Tryz.prog iY #[.agg a.vals.toArray, .agg b.vals.toArray] h Q := by
 apply w5
 unfold rx
 refine bA (vs := a.vals) fun t2 h1 f1 e1 o1 => bA (vs := b.vals) fun t3 h2 f2 e2 o2 => ?_
 have c1 : bB h2 t2 a.vals := o1.cells.fr0 f2
 have c2 : bB h2 t3 b.vals := o2.cells
 have hk := hk h2 (f1.trans f2)
 unfold I7 at hk
 refine aG (c1.at0 rfl) (aB (c1.at (j := 1) rfl) (aB (c1.at (j := 2) rfl) (aG (c2.at0 rfl) (aB (c2.at (j := 1) rfl) (aB (c2.at (j := 2) rfl) ?_)))))
 by_cases h : a = b
 ·rw [if_pos (yP.2 h)] at hk
  rw [if_pos (by rw [h]; simp)]; exact hk
 rw [if_neg (fun hh => h (yP.1 hh))] at hk
 rw [if_neg (fun hh => h (by
  simp only [Bool.and_true, Bool.and_eq_true, beq_iff_eq] at hh
  obtain ⟨v1, x1, y1⟩ := a
  obtain ⟨v2, x2, y2⟩ := b
  obtain ⟨rfl, rfl, rfl⟩ := hh
  rfl))]
 refine aG (c1.at0 rfl) (aG (c2.at0 rfl) ?_)
 by_cases hv : a.V6 = b.V6
 ·rw [if_neg (by simp [hv])]
  refine aB (c1.at (j := 1) rfl) (aB (c2.at (j := 1) rfl) (oS (fun hx => ?_) fun hx => ?_))
  ·rw [IC hv hx] at hk
   refine aB (c1.at (j := 1) rfl) (aB (c2.at (j := 1) rfl) (ifD (fun hl => ?_) fun hl => ?_))
   ·rw [decide_eq_true hl, if_pos rfl] at hk; exact hk
   ·rw [decide_eq_false hl, if_neg (by decide)] at hk; exact hk
  ·rw [HL hv hx] at hk
   refine aB (c1.at (j := 2) rfl) (aB (c2.at (j := 2) rfl) (ifD (fun hl => ?_) fun hl => ?_))
   ·rw [decide_eq_true hl, if_pos rfl] at hk; exact hk
   ·rw [decide_eq_false hl, if_neg (by decide)] at hk; exact hk
 ·rw [Ll hv] at hk
  rw [if_pos (by simpa using hv)]
  refine aG (c2.at0 rfl) (ifB (fun e => ?_) fun e => ?_)
  ·rw [if_pos e] at hk; exact hk
  ·rw [if_neg (by rw [e]; decide)] at hk; exact hk
theorem K4 [Gh] (r : aM) (hk : ∀ h', Fr (fun _ => False) h h' → Q (.bool (Ic r)) h') : aE Tryz.prog pU #[.agg r.vals.toArray] h Q := by
 apply Af
 unfold uG
 unfold Ic at hk
 refine bA (vs := r.vals) fun t1 h1 f1 e1 o1 => ?_
 have c1 : bB h1 t1 r.vals := o1.cells
 refine aG (c1.at0 rfl) (aB (c1.at (j := 1) rfl) (aB (c1.at (j := 2) rfl) ?_))
 refine zc r.Lo fun h2 f2 => ⟨_, rfl, ifB (fun e => ?_) fun e => ?_⟩
 ·rw [e, Bool.true_and] at hk
  have c2 := c1.fr0 f2
  refine aG (c2.at (j := 3) rfl) (aB (c2.at (j := 4) rfl) (aB (c2.at (j := 5) rfl) ?_))
  refine zc r.Hi fun h3 f3 => ⟨_, rfl, ifB (fun e2 => ?_) fun e2 => ?_⟩
  ·rw [e2, Bool.true_and] at hk
   have c3 := c2.fr0 f3
   refine aG (c3.at0 rfl) (aG (c3.at (j := 3) rfl) (ifB (fun e3 => ?_) fun e3 => ?_))
   ·rw [e3, Bool.true_and] at hk
    refine aG (c3.at0 rfl) (aB (c3.at (j := 1) rfl) (aB (c3.at (j := 2) rfl) (aG (c3.at (j := 3) rfl) (aB (c3.at (j := 4) rfl) (aB (c3.at (j := 5) rfl) ?_)))))
    refine xG r.Lo r.Hi fun h4 f4 => ⟨_, rfl, ?_⟩
    rw [EA]
    exact hk h4 (((f1.trans f2).trans f3).trans f4)
   ·rw [e3, Bool.false_and] at hk; exact hk h3 ((f1.trans f2).trans f3)
  ·rw [e2, Bool.false_and] at hk; exact hk h3 ((f1.trans f2).trans f3)
 ·rw [e, Bool.false_and] at hk; exact hk h2 (f1.trans f2)
theorem Dx {α : Type} (l : List α) (P : α → Bool) (i : Nat) (hi : i < l.length) : (l.take (i + 1)).any P = ((l.take i).any P || P l[i]) := by
 rw [show l.take (i + 1) = l.take i ++ [l[i]] by rw [List.take_append_getElem], List.any_append]; simp
theorem EZ {α : Type} (l : List α) (P : α → Bool) (i : Nat) (hi : i < l.length) (h : P l[i] = true) : l.any P = true := List.any_eq_true.2 ⟨l[i], List.getElem_mem hi, h⟩
theorem KI [Gh] (l : Sl aM) (o : bJ 6 aM.vals aM.ok h l) (F : Value) (P : aM → Bool) (hF : ∀ h', Fr (fun _ => False) h h' → ∀ (x : aM) (Q : Value → aA → Prop), (∀ h'', Fr (fun _ => False) h' h'' → Q (.bool (P x)) h'') → mw Tryz.prog F #[.agg x.vals.toArray] h' Q)
  (hk : ∀ h', Fr (fun _ => False) h h' → Q (.bool (l.xs.any P)) h') : aE Tryz.prog cM #[.slice l.p l.xs.length l.cap, F] h Q := by
 apply kK
 unfold fO
 apply lH
 unfold gS
 have hcap := o.cap
 refine aJ.go (fun n st h' => ∃ i : Nat, st = (i : Int) ∧ i ≤ l.xs.length ∧ n = l.xs.length - i ∧ Fr (fun _ => False) h h' ∧ (l.xs.take i).any P = false) l.xs.length ⟨0, rfl, by omega, rfl, Fr.refl _ _, rfl⟩ ?_
 rintro n - h1 ⟨i, rfl, hi, rfl, f1, ha⟩ Kn hK
 unfold cT
 refine ifD (fun e => ?_) fun e => ?_
 ·have hil : i < l.xs.length := by omega
  refine eN (bJ.fr0 aM.ok_fr f1 o) i rfl hil fun ad c _ => ?_
  rw [Int.toNat_natCast]
  refine aG (c.at0 rfl) (aB (c.at (j := 1) rfl) (aB (c.at (j := 2) rfl) (aG (c.at (j := 3) rfl) (aB (c.at (j := 4) rfl) (aB (c.at (j := 5) rfl) ?_)))))
  refine hF h1 f1 l.xs[i] _ fun h2 f2 => ⟨_, rfl, ifB (fun e2 => ⟨_, rfl, ?_⟩) fun e2 => ?_⟩
  ·rw [decide_eq_true (by omega)]
   have := hk h2 (f1.trans f2)
   rw [EZ l.xs P i hil e2] at this; exact this
  ·rw [wr (by omega) (by omega)]
   exact hK (l.xs.length - (i + 1)) _ _ (by omega) ⟨i + 1, rfl, hil, rfl, f1.trans f2, by rw [Dx _ _ _ hil, ha, e2]; rfl⟩
 ·have : i = l.xs.length := by omega
  subst this
  rw [List.take_length] at ha
  have := hk h1 f1
  rw [ha] at this
  exact ⟨_, rfl, this⟩
theorem Kz [Gh] (l : Sl aP) (o : bJ 2 aP.vals aP.ok h l) (F : Value) (P : aP → Bool) (hF : ∀ h', Fr (fun _ => False) h h' → ∀ (x : aP) (Q : Value → aA → Prop), (∀ h'', Fr (fun _ => False) h' h'' → Q (.bool (P x)) h'') → mw Tryz.prog F #[.agg x.vals.toArray] h' Q)
  (hk : ∀ h', Fr (fun _ => False) h h' → Q (.bool (l.xs.any P)) h') : aE Tryz.prog cR #[.slice l.p l.xs.length l.cap, F] h Q := by
 apply ll
 unfold gH
 apply mf
 unfold ik
 have hcap := o.cap
 refine aJ.go (fun n st h' => ∃ i : Nat, st = (i : Int) ∧ i ≤ l.xs.length ∧ n = l.xs.length - i ∧ Fr (fun _ => False) h h' ∧ (l.xs.take i).any P = false) l.xs.length ⟨0, rfl, by omega, rfl, Fr.refl _ _, rfl⟩ ?_
 rintro n - h1 ⟨i, rfl, hi, rfl, f1, ha⟩ Kn hK
 unfold dQ
 refine ifD (fun e => ?_) fun e => ?_
 ·have hil : i < l.xs.length := by omega
  refine eN (bJ.fr0 aP.ok_fr f1 o) i rfl hil fun ad c _ => ?_
  rw [Int.toNat_natCast]
  refine aB (c.at0 rfl) (aB (c.at (j := 1) rfl) ?_)
  refine hF h1 f1 l.xs[i] _ fun h2 f2 => ⟨_, rfl, ifB (fun e2 => ⟨_, rfl, ?_⟩) fun e2 => ?_⟩
  ·rw [decide_eq_true (by omega)]
   have := hk h2 (f1.trans f2)
   rw [EZ l.xs P i hil e2] at this; exact this
  ·rw [wr (by omega) (by omega)]
   exact hK (l.xs.length - (i + 1)) _ _ (by omega) ⟨i + 1, rfl, hil, rfl, f1.trans f2, by rw [Dx _ _ _ hil, ha, e2]; rfl⟩
 ·have : i = l.xs.length := by omega
  subst this
  rw [List.take_length] at ha
  have := hk h1 f1
  rw [ha] at this
  exact ⟨_, rfl, this⟩
theorem ye [Gh] (l : Sl aM) (a : aK) (o : bJ 6 aM.vals aM.ok h l) (hk : ∀ h', Fr (fun _ => False) h h' → Q (.bool (Jh l.xs a)) h') : aE Tryz.prog jP #[.slice l.p l.xs.length l.cap, .agg a.vals.toArray] h Q := by
 apply wy
 unfold qz
 unfold Jh at hk
 refine bA (vs := a.vals) fun t3 h1 f1 e1 o1 => ?_
 have c1 : bB h1 t3 a.vals := o1.cells
 refine aG (c1.at0 rfl) (aB (c1.at (j := 1) rfl) (aB (c1.at (j := 2) rfl) ?_))
 refine zc a fun h2 f2 => ⟨_, rfl, ifB (fun e => ?_) fun e => ?_⟩
 ·rw [e, Bool.true_and] at hk
  have f12 := f1.trans f2
  have c2 := c1.fr0 f2
  refine KI l (bJ.fr0 aM.ok_fr f12 o) _ (inR a) (fun h3 f3 x K hK => ?_) fun h3 f3 => ⟨_, rfl, hk h3 (f12.trans f3)⟩
  rw [cK]
  show aE Tryz.prog oE #[.agg x.vals.toArray, .pointer (some t3)] h3 K
  apply uH
  unfold pD
  have c3 := c2.fr0 f3
  unfold inR at hK
  refine bA (vs := x.vals) fun t2 h4 f4 e4 o4 => ?_
  have c4 : bB h4 t2 x.vals := o4.cells
  have a4 := c3.fr0 f4
  refine aG (c4.at0 rfl) (aB (c4.at (j := 1) rfl) (aB (c4.at (j := 2) rfl) (aG (c4.at (j := 3) rfl) (aB (c4.at (j := 4) rfl) (aB (c4.at (j := 5) rfl) ?_)))))
  refine K4 x fun h5 f5 => ⟨_, rfl, ifB (fun e5 => ?_) fun e5 => ?_⟩
  ·rw [e5, Bool.true_and] at hK
   have c5 := c4.fr0 f5
   have a5 := a4.fr0 f5
   refine aG (c5.at0 rfl) (aG (a5.at0 rfl) (ifB (fun e6 => ?_) fun e6 => ?_))
   ·rw [e6, Bool.true_and] at hK
    refine aG (c5.at0 rfl) (aB (c5.at (j := 1) rfl) (aB (c5.at (j := 2) rfl) (aG (a5.at0 rfl) (aB (a5.at (j := 1) rfl) (aB (a5.at (j := 2) rfl) ?_)))))
    refine xG x.Lo a fun h6 f6 => ⟨_, rfl, ?_⟩
    rw [EA]
    have c6 := c5.fr0 f6
    have a6 := a5.fr0 f6
    refine ifB (fun e7 => ?_) fun e7 => ?_
    ·rw [e7, Bool.true_and] at hK
     refine aG (a6.at0 rfl) (aB (a6.at (j := 1) rfl) (aB (a6.at (j := 2) rfl) (aG (c6.at (j := 3) rfl) (aB (c6.at (j := 4) rfl) (aB (c6.at (j := 5) rfl) ?_)))))
     refine xG a x.Hi fun h7 f7 => ⟨_, rfl, ?_⟩
     rw [EA]
     exact hK h7 (((f4.trans f5).trans f6).trans f7)
    ·rw [e7, Bool.false_and] at hK; exact hK h6 ((f4.trans f5).trans f6)
   ·rw [e6, Bool.false_and] at hK; exact hK h5 (f4.trans f5)
  ·rw [e5, Bool.false_and] at hK; exact hK h5 (f4.trans f5)
 ·rw [e, Bool.false_and] at hk; exact hk h2 (f1.trans f2)
theorem yf [Gh] (l : Sl aP) (n : Int) (o : bJ 2 aP.vals aP.ok h l) (hk : ∀ h', Fr (fun _ => False) h h' → Q (.bool (IZ l.xs n)) h') : aE Tryz.prog jt #[.slice l.p l.xs.length l.cap, .int .i64 n] h Q := by
 apply vH
 unfold pY
 unfold IZ at hk
 refine bA (vs := [.int .i64 n]) fun t3 h1 f1 e1 o1 => ?_
 have c1 := o1.cells
 refine aB (c1.at0 rfl) (ifD (fun e => ?_) fun e => ?_)
 ·refine aB (c1.at0 rfl) (ifD (fun e2 => ?_) fun e2 => ?_)
  ·rw [decide_eq_true ⟨by omega, e2⟩, Bool.true_and] at hk
   refine Kz l (bJ.fr0 aP.ok_fr f1 o) _ _ (fun h3 f3 x K hK => ?_) fun h3 f3 => ⟨_, rfl, hk h3 (f1.trans f3)⟩
   rw [cK]
   show aE Tryz.prog ny #[.agg x.vals.toArray, .pointer (some t3)] h3 K
   apply uw
   unfold oD
   refine bA (vs := x.vals) fun t2 h4 f4 e4 o4 => ?_
   have c4 : bB h4 t2 x.vals := o4.cells
   have a4 := (c1.fr0 f3).fr0 f4
   refine aB (c4.at0 rfl) (aB (a4.at0 rfl) (ifD (fun e5 => ?_) fun e5 => ?_))
   ·rw [decide_eq_true e5, Bool.true_and] at hK
    exact aB (a4.at0 rfl) (aB (c4.at (j := 1) rfl) (hK h4 f4))
   ·rw [decide_eq_false e5, Bool.false_and] at hK; exact hK h4 f4
  ·rw [decide_eq_false (fun hh => e2 hh.2), Bool.false_and] at hk; exact hk h1 f1
 ·rw [decide_eq_false (fun hh => e hh.1), Bool.false_and] at hk; exact hk h1 f1
end
end Go.Proofs.YtjmfpeiidlpngaaGreatDoor.Au
namespace Go.Proofs.YtjmfpeiidlpngaaGreatDoor.Au
set_option linter.unusedSimpArgs false
set_option linter.unusedVariables false
set_option maxRecDepth 20000
open Go
open Go.IntKind (wrap)
section
variable {h : aA} {Q : Value → aA → Prop}
theorem HX [Gh] (b : aF) (s d : aK) (sp dp : Int) {t4 : Addr} (cb : bB h t4 b.vals) (ok : aF.ok h b) (hk : ∀ h', Fr (fun _ => False) h h' → Q (.bool (Bs b s d sp dp)) h') :
  aE Tryz.prog iu #[.agg s.vals.toArray, .agg d.vals.toArray, .int .i64 sp, .int .i64 dp, .pointer (some t4)] h Q := by
 apply ur
 unfold oB
 unfold Bs at hk
 refine bA (vs := s.vals) fun t5 h1 f1 e1 o1 => bA (vs := d.vals) fun t6 h2 f2 e2 o2 => ?_
 have f12 := f1.trans f2
 have cs : bB h2 t5 s.vals := o1.cells.fr0 f2
 have cd : bB h2 t6 d.vals := o2.cells
 have c2 := cb.fr0 f12
 have k2 := aF.ok_fr _ _ _ f12 ok
 refine aD (c2.at (j := 21) rfl) (aG (cs.at0 rfl) (aB (cs.at (j := 1) rfl) (aB (cs.at (j := 2) rfl) ?_)))
 refine ye b.Src s k2.k1 fun h3 f3 => ⟨_, rfl, ifB (fun e => ?_) fun e => ?_⟩
 ·rw [e, Bool.true_and] at hk
  have c3 := c2.fr0 f3
  have k3 := aF.ok_fr _ _ _ f3 k2
  refine aD (c3.at (j := 23) rfl) (yf b.SrcPorts sp k3.k3 fun h4 f4 => ⟨_, rfl, ifB (fun e2 => ?_) fun e2 => ?_⟩)
  ·rw [e2, Bool.true_and] at hk
   have c4 := c3.fr0 f4
   have k4 := aF.ok_fr _ _ _ f4 k3
   have cd4 := (cd.fr0 f3).fr0 f4
   refine aD (c4.at (j := 22) rfl) (aG (cd4.at0 rfl) (aB (cd4.at (j := 1) rfl) (aB (cd4.at (j := 2) rfl) ?_)))
   refine ye b.Dst d k4.k2 fun h5 f5 => ⟨_, rfl, ifB (fun e3 => ?_) fun e3 => ?_⟩
   ·rw [e3, Bool.true_and] at hk
    have c5 := c4.fr0 f5
    have k5 := aF.ok_fr _ _ _ f5 k4
    exact aD (c5.at (j := 24) rfl) (yf b.DstPorts dp k5.k4 fun h6 f6 => ⟨_, rfl, hk h6 ((((f12.trans f3).trans f4).trans f5).trans f6)⟩)
   ·rw [e3, Bool.false_and] at hk; exact hk h5 (((f12.trans f3).trans f4).trans f5)
  ·rw [e2, Bool.false_and] at hk; exact hk h4 ((f12.trans f3).trans f4)
 ·rw [e, Bool.false_and] at hk; exact hk h3 (f12.trans f3)
theorem LC {b : aF} {f : aT} {dir : Int} (h : ¬ (b.Rule.Proto = f.Proto ∧ (dir = 1 ∨ dir = 2) ∧ (b.Rule.Dir = 0 ∨ b.Rule.Dir = dir))) : iU b f dir = false := by
 unfold iU; rw [decide_eq_false h]; rfl
theorem KJ {b : aF} {f : aT} {dir : Int} (h : b.Rule.Proto = f.Proto ∧ (dir = 1 ∨ dir = 2) ∧ (b.Rule.Dir = 0 ∨ b.Rule.Dir = dir)) : iU b f dir = (Bs b f.Src f.Dst f.Sport f.Dport || (b.Rule.Both && Bs b f.Dst f.Src f.Dport f.Sport)) := by
 unfold iU; rw [decide_eq_true h]; rfl
theorem Bi [Gh] (b : aF) (f : aT) (dir : Int) (ok : aF.ok h b) (hk : ∀ h', Fr (fun _ => False) h h' → Q (.bool (iU b f dir)) h') :
  aE Tryz.prog jC #[.agg b.vals.toArray, .agg f.vals.toArray, .int .i64 dir] h Q := by
 apply vL
 unfold p8
 refine bA (vs := b.vals) fun t3 h1 f1 e1 o1 => bA (vs := f.vals) fun t4 h2 f2 e2 o2 => ?_
 have f12 := f1.trans f2
 have cb : bB h2 t3 b.vals := o1.cells.fr0 f2
 have cf : bB h2 t4 f.vals := o2.cells
 refine (aB (cb.at0 rfl) (aB (cb.at rfl) (aD (cb.at rfl) (aD (cb.at rfl) (aD (cb.at rfl) (aD (cb.at rfl) (aG (cb.at rfl) (aB (cb.at rfl) (aB (cb.at rfl) (aB (cb.at rfl) (aY (cb.at rfl) (aB (cb.at rfl) (aB (cb.at rfl) (aD (cb.at rfl) (aD (cb.at rfl) (aD (cb.at rfl) (aD (cb.at rfl) (aB (cb.at rfl) (aB (cb.at rfl) (aB (cb.at rfl) (aB (cb.at rfl) ?_)))))))))))))))))))))
 refine bA (vs := [.int .i64 0, .int .i64 0, .slice none 0 0, .slice none 0 0, .slice none 0 0, .slice none 0 0, .bool false, .int .i64 0, .int .i64 0, .int .i64 0, .string (bs []), .int .i64 0, .int .i64 0, .slice none 0 0, .slice none 0 0, .slice none 0 0, .slice none 0 0, .int .i64 0, .int .i64 0, .int .i64 0, .int .i64 0]) fun t7 h3 f3 e3 o3 => ?_
 refine jQ o3 (ws := b.Rule.vals) (by rfl) (by rfl) fun h4 f4 s4 o4 => ?_
 have f24 : Fr (fun _ => False) h2 h4 := f3.tr f4 fun x hx hh => by omega
 have f14 := f12.trans f24
 have cb4 := cb.fr0 f24
 have cf4 := cf.fr0 f24
 have cr : bB h4 t7 b.Rule.vals := o4.cells
 have k4 := aF.ok_fr _ _ _ f14 ok
 have no : ¬ (b.Rule.Proto = f.Proto ∧ (dir = 1 ∨ dir = 2) ∧ (b.Rule.Dir = 0 ∨ b.Rule.Dir = dir)) → Q (.bool false) h4 := fun hn => by
  have := hk h4 f14
  rw [LC hn] at this; exact this
 have b1 : b.Rule.Proto = f.Proto → (dir = 1 ∨ dir = 2) → (b.Rule.Dir = 0 ∨ b.Rule.Dir = dir) → cX t4 t7 t3 Q h4 := fun q1 q2 q3 => by
  rw [KJ ⟨q1, q2, q3⟩] at hk
  unfold cX
  refine aG (cf4.at (j := 1) rfl) (aB (cf4.at (j := 2) rfl) (aB (cf4.at (j := 3) rfl) (aG (cf4.at (j := 4) rfl) (aB (cf4.at (j := 5) rfl) (aB (cf4.at (j := 6) rfl) (aB (cf4.at (j := 7) rfl) (aB (cf4.at (j := 8) rfl) ?_)))))))
  refine HX b f.Src f.Dst f.Sport f.Dport cb4 k4 fun h5 f5 => ⟨_, rfl, ifB (fun e => ?_) fun e => ?_⟩
  ·have := hk h5 (f14.trans f5)
   rw [e] at this; exact this
  ·rw [e, Bool.false_or] at hk
   have cr5 := cr.fr0 f5
   have cf5 := cf4.fr0 f5
   have cb5 := cb4.fr0 f5
   have k5 := aF.ok_fr _ _ _ f5 k4
   refine aG (cr5.at (j := 6) rfl) (ifB (fun e2 => ?_) fun e2 => ?_)
   ·rw [e2, Bool.true_and] at hk
    refine aG (cf5.at (j := 4) rfl) (aB (cf5.at (j := 5) rfl) (aB (cf5.at (j := 6) rfl) (aG (cf5.at (j := 1) rfl) (aB (cf5.at (j := 2) rfl) (aB (cf5.at (j := 3) rfl) (aB (cf5.at (j := 8) rfl) (aB (cf5.at (j := 7) rfl) ?_)))))))
    exact HX b f.Dst f.Src f.Dport f.Sport cb5 k5 fun h6 f6 => ⟨_, rfl, hk h6 ((f14.trans f5).trans f6)⟩
   ·rw [e2, Bool.false_and] at hk; exact hk h5 (f14.trans f5)
 refine aB (cr.at (j := 1) rfl) (aB (cf4.at0 rfl) (oS (fun e => no fun hh => e hh.1) fun q1 => ?_))
 refine oS (fun d1 => oS (fun d2 => no fun hh => hh.2.1.elim d1 d2) fun d2 => ?_) fun d1 => ?_
 ·refine aB (cr.at (j := 11) rfl) (oS (fun e2 => aB (cr.at (j := 11) rfl) (oS (fun e3 => no fun hh => hh.2.2.elim e2 e3) fun e3 => b1 q1 (.inr d2) (.inr e3))) fun e2 => b1 q1 (.inr d2) (.inl e2))
 ·refine aB (cr.at (j := 11) rfl) (oS (fun e2 => aB (cr.at (j := 11) rfl) (oS (fun e3 => no fun hh => hh.2.2.elim e2 e3) fun e3 => b1 q1 (.inl d1) (.inr e3))) fun e2 => b1 q1 (.inl d1) (.inl e2))
end
end Go.Proofs.YtjmfpeiidlpngaaGreatDoor.Au
namespace Go.Proofs.YtjmfpeiidlpngaaGreatDoor
set_option linter.unusedSimpArgs false
set_option linter.unusedVariables false
set_option maxRecDepth 20000
open Go
open Go.IntKind (wrap)
theorem DJ : gW Tryz.prog lk qE Tryz.t139 (.agg #[.bool false, .string (bs []), .bool false, .int .u64 0, .int .u64 0, .int .i64 0]) := ⟨Tryz.underlying53, by kernel_rfl, by kernel_rfl, by kernel_rfl, by decide +kernel⟩
theorem ng (x : aN) : (aN.vals x).length = 6 := rfl
theorem AB (x : aN) : (aN.vals x).all eQ = true := rfl
theorem tQ [Gh] (s : Sl aN) {h : aA} (os : bJ 6 aN.vals aN.ok h s) (hl : s.xs.length ≤ 2 ^ 20) {Q : Value → aA → Prop}
  (hk : ∀ p' c' h', Fr (fun _ => False) h h' → Row 6 aN.vals h' p' c' s.xs → (∀ x, InA p' x → h.size ≤ x) → Q (.slice p' s.xs.length c') h') :
  aE Tryz.prog bZ #[.slice s.p s.xs.length s.cap] h Q := by
 apply kX
 unfold fW
 cases hp : s.p with
 | none =>
  rw [if_pos (by rfl)]
  have he : s.xs = [] := by
   cases hx : s.xs with
   | nil => rfl
   | cons a l =>
    obtain ⟨ad, h1, _⟩ := os.at_ 0 (by rw [hx]; simp)
    rw [hp] at h1; cases h1
  have := hk none 0 h (Fr.refl _ _) (by rw [he]; exact Row.nil) fun x hx => (dJ hx).elim
  rw [he] at this; exact this
 | some ad =>
  rw [if_neg (by simp)]
  refine bA (vs := []) fun t5 h1 f1 e1 o1 => ?_
  have z1 := f1.size
  have R0 : Row 6 aN.vals h1 (some t5) 0 [] := Row.of_own (L := []) ng o1
  have src := (bJ.fr0 aN.ok_fr f1 os).src ng
  rw [hp] at src
  refine R0.appL DJ Tryz.underlying53 (by intro k e; cases e) (by kernel_rfl) (by decide +kernel) ng AB src (by simp; omega) fun p' cap' h' R' f hn => ⟨_, _, _, rfl, ?_⟩
  refine hk p' cap' h' (f1.tr f fun x hx hh => ?_) R' fun x hx => ?_
  ·obtain ⟨a', h1, h2⟩ := hh; cases h1; omega
  ·rcases hn x hx with hh | hh
   ·obtain ⟨a', h1, h2⟩ := hh; cases h1; omega
   ·omega
theorem Dw : gW Tryz.prog li nK Tryz.t142 (.agg #[.bool false, .string (bs []), .int .i64 0, .int .i64 0]) := ⟨Tryz.underlying54, by kernel_rfl, by kernel_rfl, by kernel_rfl, by decide +kernel⟩
theorem ns (x : aL) : (aL.vals x).length = 4 := rfl
theorem AJ (x : aL) : (aL.vals x).all eQ = true := rfl
theorem tU [Gh] (s : Sl aL) {h : aA} (os : bJ 4 aL.vals aL.ok h s) (hl : s.xs.length ≤ 2 ^ 20) {Q : Value → aA → Prop}
  (hk : ∀ p' c' h', Fr (fun _ => False) h h' → Row 4 aL.vals h' p' c' s.xs → (∀ x, InA p' x → h.size ≤ x) → Q (.slice p' s.xs.length c') h') :
  aE Tryz.prog bY #[.slice s.p s.xs.length s.cap] h Q := by
 apply kQ
 unfold fR
 cases hp : s.p with
 | none =>
  rw [if_pos (by rfl)]
  have he : s.xs = [] := by
   cases hx : s.xs with
   | nil => rfl
   | cons a l =>
    obtain ⟨ad, h1, _⟩ := os.at_ 0 (by rw [hx]; simp)
    rw [hp] at h1; cases h1
  have := hk none 0 h (Fr.refl _ _) (by rw [he]; exact Row.nil) fun x hx => (dJ hx).elim
  rw [he] at this; exact this
 | some ad =>
  rw [if_neg (by simp)]
  refine bA (vs := []) fun t5 h1 f1 e1 o1 => ?_
  have z1 := f1.size
  have R0 : Row 4 aL.vals h1 (some t5) 0 [] := Row.of_own (L := []) ns o1
  have src := (bJ.fr0 aL.ok_fr f1 os).src ns
  rw [hp] at src
  refine R0.appL Dw Tryz.underlying54 (by intro k e; cases e) (by kernel_rfl) (by decide +kernel) ns AJ src (by simp; omega) fun p' cap' h' R' f hn => ⟨_, _, _, rfl, ?_⟩
  refine hk p' cap' h' (f1.tr f fun x hx hh => ?_) R' fun x hx => ?_
  ·obtain ⟨a', h1, h2⟩ := hh; cases h1; omega
  ·rcases hn x hx with hh | hh
   ·obtain ⟨a', h1, h2⟩ := hh; cases h1; omega
   ·omega
theorem DZ : gW Tryz.prog l6 ei Tryz.t133 (.agg #[.string (bs []), .bool false, .bool false, .bool false, .int .i64 0, .int .i64 0, .bool false]) := ⟨Tryz.underlying55, by kernel_rfl, by kernel_rfl, by kernel_rfl, by decide +kernel⟩
theorem rv (x : aI) : (aI.vals x).length = 7 := rfl
theorem BR (x : aI) : (aI.vals x).all eQ = true := rfl
theorem At [Gh] (s : Sl aI) {h : aA} (os : bJ 7 aI.vals aI.ok h s) (hl : s.xs.length ≤ 2 ^ 20) {Q : Value → aA → Prop}
  (hk : ∀ p' c' h', Fr (fun _ => False) h h' → Row 7 aI.vals h' p' c' s.xs → (∀ x, InA p' x → h.size ≤ x) → Q (.slice p' s.xs.length c') h') :
  aE Tryz.prog cS #[.slice s.p s.xs.length s.cap] h Q := by
 apply lL
 unfold gR
 cases hp : s.p with
 | none =>
  rw [if_pos (by rfl)]
  have he : s.xs = [] := by
   cases hx : s.xs with
   | nil => rfl
   | cons a l =>
    obtain ⟨ad, h1, _⟩ := os.at_ 0 (by rw [hx]; simp)
    rw [hp] at h1; cases h1
  have := hk none 0 h (Fr.refl _ _) (by rw [he]; exact Row.nil) fun x hx => (dJ hx).elim
  rw [he] at this; exact this
 | some ad =>
  rw [if_neg (by simp)]
  refine bA (vs := []) fun t5 h1 f1 e1 o1 => ?_
  have z1 := f1.size
  have R0 : Row 7 aI.vals h1 (some t5) 0 [] := Row.of_own (L := []) rv o1
  have src := (bJ.fr0 aI.ok_fr f1 os).src rv
  rw [hp] at src
  refine R0.appL DZ Tryz.underlying55 (by intro k e; cases e) (by kernel_rfl) (by decide +kernel) rv BR src (by simp; omega) fun p' cap' h' R' f hn => ⟨_, _, _, rfl, ?_⟩
  refine hk p' cap' h' (f1.tr f fun x hx hh => ?_) R' fun x hx => ?_
  ·obtain ⟨a', h1, h2⟩ := hh; cases h1; omega
  ·rcases hn x hx with hh | hh
   ·obtain ⟨a', h1, h2⟩ := hh; cases h1; omega
   ·omega
theorem Jp : gW Tryz.prog pr oK Tryz.t146 (.agg #[.int .i64 0, .int .i64 0, .int .i64 0, .int .i64 0, .bool false, .bool false, .bool false]) := ⟨Tryz.underlying56, by kernel_rfl, by kernel_rfl, by kernel_rfl, by decide +kernel⟩
theorem xe (x : bC) : (bC.vals x).length = 7 := rfl
theorem FQ (x : bC) : (bC.vals x).all eQ = true := rfl
theorem CF [Gh] (s : Sl bC) {h : aA} (os : bJ 7 bC.vals bC.ok h s) (hl : s.xs.length ≤ 2 ^ 20) {Q : Value → aA → Prop}
  (hk : ∀ p' c' h', Fr (fun _ => False) h h' → Row 7 bC.vals h' p' c' s.xs → (∀ x, InA p' x → h.size ≤ x) → Q (.slice p' s.xs.length c') h') :
  aE Tryz.prog eY #[.slice s.p s.xs.length s.cap] h Q := by
 apply nv
 unfold jx
 cases hp : s.p with
 | none =>
  rw [if_pos (by rfl)]
  have he : s.xs = [] := by
   cases hx : s.xs with
   | nil => rfl
   | cons a l =>
    obtain ⟨ad, h1, _⟩ := os.at_ 0 (by rw [hx]; simp)
    rw [hp] at h1; cases h1
  have := hk none 0 h (Fr.refl _ _) (by rw [he]; exact Row.nil) fun x hx => (dJ hx).elim
  rw [he] at this; exact this
 | some ad =>
  rw [if_neg (by simp)]
  refine bA (vs := []) fun t5 h1 f1 e1 o1 => ?_
  have z1 := f1.size
  have R0 : Row 7 bC.vals h1 (some t5) 0 [] := Row.of_own (L := []) xe o1
  have src := (bJ.fr0 bC.ok_fr f1 os).src xe
  rw [hp] at src
  refine R0.appL Jp Tryz.underlying56 (by intro k e; cases e) (by kernel_rfl) (by decide +kernel) xe FQ src (by simp; omega) fun p' cap' h' R' f hn => ⟨_, _, _, rfl, ?_⟩
  refine hk p' cap' h' (f1.tr f fun x hx hh => ?_) R' fun x hx => ?_
  ·obtain ⟨a', h1, h2⟩ := hh; cases h1; omega
  ·rcases hn x hx with hh | hh
   ·obtain ⟨a', h1, h2⟩ := hh; cases h1; omega
   ·omega
theorem FZ : gW Tryz.prog mD sR Tryz.t149 (.agg #[.int .i64 0, .string (bs [])]) := ⟨Tryz.underlying57, by kernel_rfl, by kernel_rfl, by kernel_rfl, by decide +kernel⟩
theorem tB (x : aZ) : (aZ.vals x).length = 2 := rfl
theorem C6 (x : aZ) : (aZ.vals x).all eQ = true := rfl
theorem AL [Gh] (s : Sl aZ) {h : aA} (os : bJ 2 aZ.vals aZ.ok h s) (hl : s.xs.length ≤ 2 ^ 20) {Q : Value → aA → Prop}
  (hk : ∀ p' c' h', Fr (fun _ => False) h h' → Row 2 aZ.vals h' p' c' s.xs → (∀ x, InA p' x → h.size ≤ x) → Q (.slice p' s.xs.length c') h') :
  aE Tryz.prog dR #[.slice s.p s.xs.length s.cap] h Q := by
 apply mg
 unfold ig
 cases hp : s.p with
 | none =>
  rw [if_pos (by rfl)]
  have he : s.xs = [] := by
   cases hx : s.xs with
   | nil => rfl
   | cons a l =>
    obtain ⟨ad, h1, _⟩ := os.at_ 0 (by rw [hx]; simp)
    rw [hp] at h1; cases h1
  have := hk none 0 h (Fr.refl _ _) (by rw [he]; exact Row.nil) fun x hx => (dJ hx).elim
  rw [he] at this; exact this
 | some ad =>
  rw [if_neg (by simp)]
  refine bA (vs := []) fun t5 h1 f1 e1 o1 => ?_
  have z1 := f1.size
  have R0 : Row 2 aZ.vals h1 (some t5) 0 [] := Row.of_own (L := []) tB o1
  have src := (bJ.fr0 aZ.ok_fr f1 os).src tB
  rw [hp] at src
  refine R0.appL FZ Tryz.underlying57 (by intro k e; cases e) (by kernel_rfl) (by decide +kernel) tB C6 src (by simp; omega) fun p' cap' h' R' f hn => ⟨_, _, _, rfl, ?_⟩
  refine hk p' cap' h' (f1.tr f fun x hx hh => ?_) R' fun x hx => ?_
  ·obtain ⟨a', h1, h2⟩ := hh; cases h1; omega
  ·rcases hn x hx with hh | hh
   ·obtain ⟨a', h1, h2⟩ := hh; cases h1; omega
   ·omega
theorem IL : gW Tryz.prog n7 m8 Tryz.t152 (.agg #[.bool false, .int .u64 0, .int .u64 0, .bool false, .int .u64 0, .int .u64 0]) := ⟨Tryz.underlying62, by kernel_rfl, by kernel_rfl, by kernel_rfl, by decide +kernel⟩
theorem sP (x : aM) : (aM.vals x).length = 6 := rfl
theorem Eo (x : aM) : (aM.vals x).all eQ = true := rfl
theorem wZ [Gh] (s : Sl aM) {h : aA} (os : bJ 6 aM.vals aM.ok h s) (hl : s.xs.length ≤ 2 ^ 20) {Q : Value → aA → Prop}
  (hk : ∀ p' c' h', Fr (fun _ => False) h h' → Row 6 aM.vals h' p' c' s.xs → (∀ x, InA p' x → h.size ≤ x) → Q (.slice p' s.xs.length c') h') :
  aE Tryz.prog cL #[.slice s.p s.xs.length s.cap] h Q := by
 apply mL
 unfold iN
 cases hp : s.p with
 | none =>
  rw [if_pos (by rfl)]
  have he : s.xs = [] := by
   cases hx : s.xs with
   | nil => rfl
   | cons a l =>
    obtain ⟨ad, h1, _⟩ := os.at_ 0 (by rw [hx]; simp)
    rw [hp] at h1; cases h1
  have := hk none 0 h (Fr.refl _ _) (by rw [he]; exact Row.nil) fun x hx => (dJ hx).elim
  rw [he] at this; exact this
 | some ad =>
  rw [if_neg (by simp)]
  refine bA (vs := []) fun t5 h1 f1 e1 o1 => ?_
  have z1 := f1.size
  have R0 : Row 6 aM.vals h1 (some t5) 0 [] := Row.of_own (L := []) sP o1
  have src := (bJ.fr0 aM.ok_fr f1 os).src sP
  rw [hp] at src
  refine R0.appL IL Tryz.underlying62 (by intro k e; cases e) (by kernel_rfl) (by decide +kernel) sP Eo src (by simp; omega) fun p' cap' h' R' f hn => ⟨_, _, _, rfl, ?_⟩
  refine hk p' cap' h' (f1.tr f fun x hx hh => ?_) R' fun x hx => ?_
  ·obtain ⟨a', h1, h2⟩ := hh; cases h1; omega
  ·rcases hn x hx with hh | hh
   ·obtain ⟨a', h1, h2⟩ := hh; cases h1; omega
   ·omega
theorem Jj : gW Tryz.prog pi qN Tryz.t155 (.agg #[.int .i64 0, .int .i64 0]) := ⟨Tryz.underlying63, by kernel_rfl, by kernel_rfl, by kernel_rfl, by decide +kernel⟩
theorem uQ (x : aP) : (aP.vals x).length = 2 := rfl
theorem GL (x : aP) : (aP.vals x).all eQ = true := rfl
theorem yd [Gh] (s : Sl aP) {h : aA} (os : bJ 2 aP.vals aP.ok h s) (hl : s.xs.length ≤ 2 ^ 20) {Q : Value → aA → Prop}
  (hk : ∀ p' c' h', Fr (fun _ => False) h h' → Row 2 aP.vals h' p' c' s.xs → (∀ x, InA p' x → h.size ≤ x) → Q (.slice p' s.xs.length c') h') :
  aE Tryz.prog cQ #[.slice s.p s.xs.length s.cap] h Q := by
 apply nN
 unfold jp
 cases hp : s.p with
 | none =>
  rw [if_pos (by rfl)]
  have he : s.xs = [] := by
   cases hx : s.xs with
   | nil => rfl
   | cons a l =>
    obtain ⟨ad, h1, _⟩ := os.at_ 0 (by rw [hx]; simp)
    rw [hp] at h1; cases h1
  have := hk none 0 h (Fr.refl _ _) (by rw [he]; exact Row.nil) fun x hx => (dJ hx).elim
  rw [he] at this; exact this
 | some ad =>
  rw [if_neg (by simp)]
  refine bA (vs := []) fun t5 h1 f1 e1 o1 => ?_
  have z1 := f1.size
  have R0 : Row 2 aP.vals h1 (some t5) 0 [] := Row.of_own (L := []) uQ o1
  have src := (bJ.fr0 aP.ok_fr f1 os).src uQ
  rw [hp] at src
  refine R0.appL Jj Tryz.underlying63 (by intro k e; cases e) (by kernel_rfl) (by decide +kernel) uQ GL src (by simp; omega) fun p' cap' h' R' f hn => ⟨_, _, _, rfl, ?_⟩
  refine hk p' cap' h' (f1.tr f fun x hx hh => ?_) R' fun x hx => ?_
  ·obtain ⟨a', h1, h2⟩ := hh; cases h1; omega
  ·rcases hn x hx with hh | hh
   ·obtain ⟨a', h1, h2⟩ := hh; cases h1; omega
   ·omega
theorem K2 : gW Tryz.prog bL mn Tryz.t3 (.int .i64 0) := ⟨Tryz.underlying46, by kernel_rfl, by kernel_rfl, by kernel_rfl, by decide +kernel⟩
theorem yQ (x : Int) : ((fun n : Int => [Value.int .i64 n]) x).length = 1 := rfl
theorem H1 (x : Int) : ((fun n : Int => [Value.int .i64 n]) x).all eQ = true := rfl
theorem zQ [Gh] (s : Sl Int) {h : aA} (os : bJ 1 (fun n : Int => [Value.int .i64 n]) (kOk .i64) h s) (hl : s.xs.length ≤ 2 ^ 20) {Q : Value → aA → Prop}
  (hk : ∀ p' c' h', Fr (fun _ => False) h h' → Row 1 (fun n : Int => [Value.int .i64 n]) h' p' c' s.xs → (∀ x, InA p' x → h.size ≤ x) → Q (.slice p' s.xs.length c') h') :
  aE Tryz.prog cU #[.slice s.p s.xs.length s.cap] h Q := by
 apply nE
 unfold kb
 cases hp : s.p with
 | none =>
  rw [if_pos (by rfl)]
  have he : s.xs = [] := by
   cases hx : s.xs with
   | nil => rfl
   | cons a l =>
    obtain ⟨ad, h1, _⟩ := os.at_ 0 (by rw [hx]; simp)
    rw [hp] at h1; cases h1
  have := hk none 0 h (Fr.refl _ _) (by rw [he]; exact Row.nil) fun x hx => (dJ hx).elim
  rw [he] at this; exact this
 | some ad =>
  rw [if_neg (by simp)]
  refine bA (vs := []) fun t5 h1 f1 e1 o1 => ?_
  have z1 := f1.size
  have R0 : Row 1 (fun n : Int => [Value.int .i64 n]) h1 (some t5) 0 [] := Row.of_own (L := []) yQ o1
  have src := (bJ.fr0 yA f1 os).src yQ
  rw [hp] at src
  refine R0.appL K2 Tryz.underlying46 (by intro k e; cases e) (by kernel_rfl) (by decide +kernel) yQ H1 src (by simp; omega) fun p' cap' h' R' f hn => ⟨_, _, _, rfl, ?_⟩
  refine hk p' cap' h' (f1.tr f fun x hx hh => ?_) R' fun x hx => ?_
  ·obtain ⟨a', h1, h2⟩ := hh; cases h1; omega
  ·rcases hn x hx with hh | hh
   ·obtain ⟨a', h1, h2⟩ := hh; cases h1; omega
   ·omega
theorem Aa {h h' : aA} {r : aK} (o : aK.ok h r) : aK.ok h' r :=
 ⟨o.k0, o.k1, o.k2⟩
theorem Es {h h' : aA} {r : bQ} (o : bQ.ok h r) : bQ.ok h' r :=
 ⟨Aa o.k0, o.k1⟩
theorem xj {h h' : aA} {r : aN} (o : aN.ok h r) : aN.ok h' r :=
 ⟨o.k0, o.k1, Es o.k2⟩
theorem xi {h h' : aA} {r : aL} (o : aL.ok h r) : aL.ok h' r :=
 ⟨o.k0, o.k1, o.k2, o.k3⟩
theorem DK {h h' : aA} {r : aI} (o : aI.ok h r) : aI.ok h' r :=
 ⟨o.k0, o.k1, o.k2, o.k3, o.k4, o.k5, o.k6⟩
theorem G8 {h h' : aA} {r : bC} (o : bC.ok h r) : bC.ok h' r :=
 ⟨o.k0, o.k1, o.k2, o.k3, o.k4, o.k5, o.k6⟩
theorem Ei {h h' : aA} {r : aZ} (o : aZ.ok h r) : aZ.ok h' r :=
 ⟨o.k0, o.k1⟩
theorem Bu {h h' : aA} {r : aM} (o : aM.ok h r) : aM.ok h' r :=
 ⟨Aa o.k0, Aa o.k1⟩
theorem Di {h h' : aA} {r : aP} (o : aP.ok h r) : aP.ok h' r :=
 ⟨o.k0, o.k1⟩
theorem AH {h h' : aA} {r : bF} (o : bF.ok h r) : bF.ok h' r :=
 ⟨o.k0, o.k1, o.k2, o.k3⟩
theorem JS {h h' : aA} {n : Int} (o : kOk .i64 h n) : kOk .i64 h' n := o
def St (B : Nat → Prop) (h : aA) (b : aF) : Prop := ∀ h', Fr (fun x => ¬ B x) h h' → aF.ok h' b
theorem St.now {B : Nat → Prop} {h : aA} {b : aF} (s : St B h b) : aF.ok h b := s h (Fr.refl _ _)
theorem St.fr {B B' S : Nat → Prop} {h h' : aA} {b : aF} (s : St B h b) (f : Fr S h h') (h1 : ∀ x, x < h.size → B x → ¬ S x) (h2 : ∀ x, x < h.size → B x → B' x) : St B' h' b := fun h'' f2 =>
 s h'' ⟨Nat.le_trans f.size f2.size, fun x hx hn => by
  have hB : B x := Classical.byContradiction hn
  rw [f2.same x (Nat.lt_of_lt_of_le hx f.size) (fun hh => hh (h2 x hx hB)), f.same x hx (h1 x hx hB)]⟩
def sj {α : Type} (s : Sl α) : Sl α := ⟨none, 0, s.xs⟩
def J9 (r : aO) : aO := { r with Src := sj r.Src, Dst := sj r.Dst, SrcPorts := sj r.SrcPorts, DstPorts := sj r.DstPorts, Transforms := sj r.Transforms, Contents := sj r.Contents, Tests := sj r.Tests, Flow := sj r.Flow }
def wipe (b : aF) : aF := { Rule := J9 b.Rule, Src := sj b.Src, Dst := sj b.Dst, SrcPorts := sj b.SrcPorts, DstPorts := sj b.DstPorts }
structure Ks (b : aF) : Prop where
 l2 : b.Rule.Src.xs.length ≤ 2 ^ 20
 l3 : b.Rule.Dst.xs.length ≤ 2 ^ 20
 l4 : b.Rule.SrcPorts.xs.length ≤ 2 ^ 20
 l5 : b.Rule.DstPorts.xs.length ≤ 2 ^ 20
 l13 : b.Rule.Transforms.xs.length ≤ 2 ^ 20
 l14 : b.Rule.Contents.xs.length ≤ 2 ^ 20
 l15 : b.Rule.Tests.xs.length ≤ 2 ^ 20
 l16 : b.Rule.Flow.xs.length ≤ 2 ^ 20
 l21 : b.Src.xs.length ≤ 2 ^ 20
 l22 : b.Dst.xs.length ≤ 2 ^ 20
 l23 : b.SrcPorts.xs.length ≤ 2 ^ 20
 l24 : b.DstPorts.xs.length ≤ 2 ^ 20
set_option maxHeartbeats 2000000 in
theorem It [Gh] (b : aF) {h : aA} (ok : aF.ok h b) (L : Ks b) {Q : Value → aA → Prop} (hk : ∀ (b' : aF) h', Fr (fun _ => False) h h' → St (fun x => h.size ≤ x) h' b' → wipe b' = wipe b → Q (.agg b'.vals.toArray) h') :
  aE Tryz.prog nT #[.agg b.vals.toArray] h Q := by
 apply xW
 unfold sC
 refine bA (vs := b.vals) fun t1 h1 f1 e1 o1 => ?_
 have z1 := f1.size
 have lt1 := o1.lt
 refine bA (vs := [.int .i64 0, .int .i64 0, .slice none 0 0, .slice none 0 0, .slice none 0 0, .slice none 0 0, .bool false, .int .i64 0, .int .i64 0, .int .i64 0, .string (bs []), .int .i64 0, .int .i64 0, .slice none 0 0, .slice none 0 0, .slice none 0 0, .slice none 0 0, .int .i64 0, .int .i64 0, .int .i64 0, .int .i64 0, .slice none 0 0, .slice none 0 0, .slice none 0 0, .slice none 0 0]) fun t2 h2 f2 e2 o2 => ?_
 have z2 := f2.size
 have lt2 := o2.lt
 have F0 : Fr (fun _ => False) h h2 := f1.trans f2
 have c0 : Own h2 t1 b.vals cF := o1.fr0 f2
 have d0 := o2
 have k0 := aF.ok_fr _ _ _ F0 ok
 refine aD (c0.cells.at (j := 2) rfl) (aD (c0.cells.at (j := 3) rfl) ?_)
 refine tQ b.Rule.Src k0.k0.k2 L.l2 fun p2 q2 ha0 fa0 R2 n2 => ⟨_, _, _, rfl, aD ((c0.fr0 fa0).cells.at (j := 3) rfl) rfl, ?_⟩
 have za0 := fa0.size
 refine tQ b.Rule.Dst (aF.ok_fr _ _ _ fa0 k0).k0.k3 L.l3 fun p3 q3 hb0 fb0 R3 n3 => ⟨_, _, _, rfl, ?_⟩
 have zb0 := fb0.size
 refine cH ((c0.fr0 fa0).fr0 fb0) 2 (by show 2 < 25; omega) rfl fun hc0 fc0 zc0 oc0 => ?_
 refine cH oc0 3 (by show 3 < 25; omega) rfl fun hd0 fd0 zd0 od0 => ?_
 have zz0 := fc0.size
 have zy0 := fd0.size
 have g0 : Fr (fun x => x = t1.block) hb0 hd0 := fc0.trans fd0
 have F1 : Fr (fun _ => False) h hd0 := ((F0.trans fa0).trans fb0).tr g0 fun x hx hh => by omega
 have R2 := (R2.fr0 fb0).fr g0 fun x hx hh => by have := n2 x hx; omega
 have R3 := R3.fr g0 fun x hx hh => by have := n3 x hx; omega
 have c1 : Own hd0 t1 (aF.vals (⟨⟨b.Rule.Action, b.Rule.Proto, ⟨p2, q2, b.Rule.Src.xs⟩, ⟨p3, q3, b.Rule.Dst.xs⟩, b.Rule.SrcPorts, b.Rule.DstPorts, b.Rule.Both, b.Rule.Sid, b.Rule.Rev, b.Rule.Priority, b.Rule.Msg, b.Rule.Dir, b.Rule.Kind, b.Rule.Transforms, b.Rule.Contents, b.Rule.Tests, b.Rule.Flow, b.Rule.Threshold⟩, b.Src, b.Dst, b.SrcPorts, b.DstPorts⟩ : aF)) cF := od0
 have d1 := ((d0.fr0 fa0).fr0 fb0).fr g0 fun hh => by omega
 have k1 := aF.ok_fr _ _ _ F1 ok
 refine aD (c1.cells.at (j := 4) rfl) (aD (c1.cells.at (j := 5) rfl) ?_)
 refine tU b.Rule.SrcPorts k1.k0.k4 L.l4 fun p4 q4 ha1 fa1 R4 n4 => ⟨_, _, _, rfl, aD ((c1.fr0 fa1).cells.at (j := 5) rfl) rfl, ?_⟩
 have za1 := fa1.size
 refine tU b.Rule.DstPorts (aF.ok_fr _ _ _ fa1 k1).k0.k5 L.l5 fun p5 q5 hb1 fb1 R5 n5 => ⟨_, _, _, rfl, ?_⟩
 have zb1 := fb1.size
 refine cH ((c1.fr0 fa1).fr0 fb1) 4 (by show 4 < 25; omega) rfl fun hc1 fc1 zc1 oc1 => ?_
 refine cH oc1 5 (by show 5 < 25; omega) rfl fun hd1 fd1 zd1 od1 => ?_
 have zz1 := fc1.size
 have zy1 := fd1.size
 have g1 : Fr (fun x => x = t1.block) hb1 hd1 := fc1.trans fd1
 have F2 : Fr (fun _ => False) h hd1 := ((F1.trans fa1).trans fb1).tr g1 fun x hx hh => by omega
 have R4 := (R4.fr0 fb1).fr g1 fun x hx hh => by have := n4 x hx; omega
 have R5 := R5.fr g1 fun x hx hh => by have := n5 x hx; omega
 have R2 := ((R2.fr0 fa1).fr0 fb1).fr g1 fun x hx hh => by have := n2 x hx; omega
 have R3 := ((R3.fr0 fa1).fr0 fb1).fr g1 fun x hx hh => by have := n3 x hx; omega
 have c2 : Own hd1 t1 (aF.vals (⟨⟨b.Rule.Action, b.Rule.Proto, ⟨p2, q2, b.Rule.Src.xs⟩, ⟨p3, q3, b.Rule.Dst.xs⟩, ⟨p4, q4, b.Rule.SrcPorts.xs⟩, ⟨p5, q5, b.Rule.DstPorts.xs⟩, b.Rule.Both, b.Rule.Sid, b.Rule.Rev, b.Rule.Priority, b.Rule.Msg, b.Rule.Dir, b.Rule.Kind, b.Rule.Transforms, b.Rule.Contents, b.Rule.Tests, b.Rule.Flow, b.Rule.Threshold⟩, b.Src, b.Dst, b.SrcPorts, b.DstPorts⟩ : aF)) cF := od1
 have d2 := ((d1.fr0 fa1).fr0 fb1).fr g1 fun hh => by omega
 have k2 := aF.ok_fr _ _ _ F2 ok
 refine aD (c2.cells.at (j := 13) rfl) (aD (c2.cells.at (j := 14) rfl) ?_)
 refine zQ b.Rule.Transforms k2.k0.k13 L.l13 fun p13 q13 ha2 fa2 R13 n13 => ⟨_, _, _, rfl, aD ((c2.fr0 fa2).cells.at (j := 14) rfl) rfl, ?_⟩
 have za2 := fa2.size
 refine At b.Rule.Contents (aF.ok_fr _ _ _ fa2 k2).k0.k14 L.l14 fun p14 q14 hb2 fb2 R14 n14 => ⟨_, _, _, rfl, ?_⟩
 have zb2 := fb2.size
 refine cH ((c2.fr0 fa2).fr0 fb2) 13 (by show 13 < 25; omega) rfl fun hc2 fc2 zc2 oc2 => ?_
 refine cH oc2 14 (by show 14 < 25; omega) rfl fun hd2 fd2 zd2 od2 => ?_
 have zz2 := fc2.size
 have zy2 := fd2.size
 have g2 : Fr (fun x => x = t1.block) hb2 hd2 := fc2.trans fd2
 have F3 : Fr (fun _ => False) h hd2 := ((F2.trans fa2).trans fb2).tr g2 fun x hx hh => by omega
 have R13 := (R13.fr0 fb2).fr g2 fun x hx hh => by have := n13 x hx; omega
 have R14 := R14.fr g2 fun x hx hh => by have := n14 x hx; omega
 have R2 := ((R2.fr0 fa2).fr0 fb2).fr g2 fun x hx hh => by have := n2 x hx; omega
 have R3 := ((R3.fr0 fa2).fr0 fb2).fr g2 fun x hx hh => by have := n3 x hx; omega
 have R4 := ((R4.fr0 fa2).fr0 fb2).fr g2 fun x hx hh => by have := n4 x hx; omega
 have R5 := ((R5.fr0 fa2).fr0 fb2).fr g2 fun x hx hh => by have := n5 x hx; omega
 have c3 : Own hd2 t1 (aF.vals (⟨⟨b.Rule.Action, b.Rule.Proto, ⟨p2, q2, b.Rule.Src.xs⟩, ⟨p3, q3, b.Rule.Dst.xs⟩, ⟨p4, q4, b.Rule.SrcPorts.xs⟩, ⟨p5, q5, b.Rule.DstPorts.xs⟩, b.Rule.Both, b.Rule.Sid, b.Rule.Rev, b.Rule.Priority, b.Rule.Msg, b.Rule.Dir, b.Rule.Kind, ⟨p13, q13, b.Rule.Transforms.xs⟩, ⟨p14, q14, b.Rule.Contents.xs⟩, b.Rule.Tests, b.Rule.Flow, b.Rule.Threshold⟩, b.Src, b.Dst, b.SrcPorts, b.DstPorts⟩ : aF)) cF := od2
 have d3 := ((d2.fr0 fa2).fr0 fb2).fr g2 fun hh => by omega
 have k3 := aF.ok_fr _ _ _ F3 ok
 refine aD (c3.cells.at (j := 15) rfl) (aD (c3.cells.at (j := 16) rfl) ?_)
 refine CF b.Rule.Tests k3.k0.k15 L.l15 fun p15 q15 ha3 fa3 R15 n15 => ⟨_, _, _, rfl, aD ((c3.fr0 fa3).cells.at (j := 16) rfl) rfl, ?_⟩
 have za3 := fa3.size
 refine AL b.Rule.Flow (aF.ok_fr _ _ _ fa3 k3).k0.k16 L.l16 fun p16 q16 hb3 fb3 R16 n16 => ⟨_, _, _, rfl, ?_⟩
 have zb3 := fb3.size
 refine cH ((c3.fr0 fa3).fr0 fb3) 15 (by show 15 < 25; omega) rfl fun hc3 fc3 zc3 oc3 => ?_
 refine cH oc3 16 (by show 16 < 25; omega) rfl fun hd3 fd3 zd3 od3 => ?_
 have zz3 := fc3.size
 have zy3 := fd3.size
 have g3 : Fr (fun x => x = t1.block) hb3 hd3 := fc3.trans fd3
 have F4 : Fr (fun _ => False) h hd3 := ((F3.trans fa3).trans fb3).tr g3 fun x hx hh => by omega
 have R15 := (R15.fr0 fb3).fr g3 fun x hx hh => by have := n15 x hx; omega
 have R16 := R16.fr g3 fun x hx hh => by have := n16 x hx; omega
 have R2 := ((R2.fr0 fa3).fr0 fb3).fr g3 fun x hx hh => by have := n2 x hx; omega
 have R3 := ((R3.fr0 fa3).fr0 fb3).fr g3 fun x hx hh => by have := n3 x hx; omega
 have R4 := ((R4.fr0 fa3).fr0 fb3).fr g3 fun x hx hh => by have := n4 x hx; omega
 have R5 := ((R5.fr0 fa3).fr0 fb3).fr g3 fun x hx hh => by have := n5 x hx; omega
 have R13 := ((R13.fr0 fa3).fr0 fb3).fr g3 fun x hx hh => by have := n13 x hx; omega
 have R14 := ((R14.fr0 fa3).fr0 fb3).fr g3 fun x hx hh => by have := n14 x hx; omega
 have c4 : Own hd3 t1 (aF.vals (⟨⟨b.Rule.Action, b.Rule.Proto, ⟨p2, q2, b.Rule.Src.xs⟩, ⟨p3, q3, b.Rule.Dst.xs⟩, ⟨p4, q4, b.Rule.SrcPorts.xs⟩, ⟨p5, q5, b.Rule.DstPorts.xs⟩, b.Rule.Both, b.Rule.Sid, b.Rule.Rev, b.Rule.Priority, b.Rule.Msg, b.Rule.Dir, b.Rule.Kind, ⟨p13, q13, b.Rule.Transforms.xs⟩, ⟨p14, q14, b.Rule.Contents.xs⟩, ⟨p15, q15, b.Rule.Tests.xs⟩, ⟨p16, q16, b.Rule.Flow.xs⟩, b.Rule.Threshold⟩, b.Src, b.Dst, b.SrcPorts, b.DstPorts⟩ : aF)) cF := od3
 have d4 := ((d3.fr0 fa3).fr0 fb3).fr g3 fun hh => by omega
 have k4 := aF.ok_fr _ _ _ F4 ok
 refine aD (c4.cells.at (j := 21) rfl) (aD (c4.cells.at (j := 22) rfl) ?_)
 refine wZ b.Src k4.k1 L.l21 fun p21 q21 ha4 fa4 R21 n21 => ⟨_, _, _, rfl, aD ((c4.fr0 fa4).cells.at (j := 22) rfl) rfl, ?_⟩
 have za4 := fa4.size
 refine wZ b.Dst (aF.ok_fr _ _ _ fa4 k4).k2 L.l22 fun p22 q22 hb4 fb4 R22 n22 => ⟨_, _, _, rfl, ?_⟩
 have zb4 := fb4.size
 refine cH ((c4.fr0 fa4).fr0 fb4) 21 (by show 21 < 25; omega) rfl fun hc4 fc4 zc4 oc4 => ?_
 refine cH oc4 22 (by show 22 < 25; omega) rfl fun hd4 fd4 zd4 od4 => ?_
 have zz4 := fc4.size
 have zy4 := fd4.size
 have g4 : Fr (fun x => x = t1.block) hb4 hd4 := fc4.trans fd4
 have F5 : Fr (fun _ => False) h hd4 := ((F4.trans fa4).trans fb4).tr g4 fun x hx hh => by omega
 have R21 := (R21.fr0 fb4).fr g4 fun x hx hh => by have := n21 x hx; omega
 have R22 := R22.fr g4 fun x hx hh => by have := n22 x hx; omega
 have R2 := ((R2.fr0 fa4).fr0 fb4).fr g4 fun x hx hh => by have := n2 x hx; omega
 have R3 := ((R3.fr0 fa4).fr0 fb4).fr g4 fun x hx hh => by have := n3 x hx; omega
 have R4 := ((R4.fr0 fa4).fr0 fb4).fr g4 fun x hx hh => by have := n4 x hx; omega
 have R5 := ((R5.fr0 fa4).fr0 fb4).fr g4 fun x hx hh => by have := n5 x hx; omega
 have R13 := ((R13.fr0 fa4).fr0 fb4).fr g4 fun x hx hh => by have := n13 x hx; omega
 have R14 := ((R14.fr0 fa4).fr0 fb4).fr g4 fun x hx hh => by have := n14 x hx; omega
 have R15 := ((R15.fr0 fa4).fr0 fb4).fr g4 fun x hx hh => by have := n15 x hx; omega
 have R16 := ((R16.fr0 fa4).fr0 fb4).fr g4 fun x hx hh => by have := n16 x hx; omega
 have c5 : Own hd4 t1 (aF.vals (⟨⟨b.Rule.Action, b.Rule.Proto, ⟨p2, q2, b.Rule.Src.xs⟩, ⟨p3, q3, b.Rule.Dst.xs⟩, ⟨p4, q4, b.Rule.SrcPorts.xs⟩, ⟨p5, q5, b.Rule.DstPorts.xs⟩, b.Rule.Both, b.Rule.Sid, b.Rule.Rev, b.Rule.Priority, b.Rule.Msg, b.Rule.Dir, b.Rule.Kind, ⟨p13, q13, b.Rule.Transforms.xs⟩, ⟨p14, q14, b.Rule.Contents.xs⟩, ⟨p15, q15, b.Rule.Tests.xs⟩, ⟨p16, q16, b.Rule.Flow.xs⟩, b.Rule.Threshold⟩, ⟨p21, q21, b.Src.xs⟩, ⟨p22, q22, b.Dst.xs⟩, b.SrcPorts, b.DstPorts⟩ : aF)) cF := od4
 have d5 := ((d4.fr0 fa4).fr0 fb4).fr g4 fun hh => by omega
 have k5 := aF.ok_fr _ _ _ F5 ok
 refine aD (c5.cells.at (j := 23) rfl) (aD (c5.cells.at (j := 24) rfl) ?_)
 refine yd b.SrcPorts k5.k3 L.l23 fun p23 q23 ha5 fa5 R23 n23 => ⟨_, _, _, rfl, aD ((c5.fr0 fa5).cells.at (j := 24) rfl) rfl, ?_⟩
 have za5 := fa5.size
 refine yd b.DstPorts (aF.ok_fr _ _ _ fa5 k5).k4 L.l24 fun p24 q24 hb5 fb5 R24 n24 => ⟨_, _, _, rfl, ?_⟩
 have zb5 := fb5.size
 refine cH ((c5.fr0 fa5).fr0 fb5) 23 (by show 23 < 25; omega) rfl fun hc5 fc5 zc5 oc5 => ?_
 refine cH oc5 24 (by show 24 < 25; omega) rfl fun hd5 fd5 zd5 od5 => ?_
 have zz5 := fc5.size
 have zy5 := fd5.size
 have g5 : Fr (fun x => x = t1.block) hb5 hd5 := fc5.trans fd5
 have F6 : Fr (fun _ => False) h hd5 := ((F5.trans fa5).trans fb5).tr g5 fun x hx hh => by omega
 have R23 := (R23.fr0 fb5).fr g5 fun x hx hh => by have := n23 x hx; omega
 have R24 := R24.fr g5 fun x hx hh => by have := n24 x hx; omega
 have R2 := ((R2.fr0 fa5).fr0 fb5).fr g5 fun x hx hh => by have := n2 x hx; omega
 have R3 := ((R3.fr0 fa5).fr0 fb5).fr g5 fun x hx hh => by have := n3 x hx; omega
 have R4 := ((R4.fr0 fa5).fr0 fb5).fr g5 fun x hx hh => by have := n4 x hx; omega
 have R5 := ((R5.fr0 fa5).fr0 fb5).fr g5 fun x hx hh => by have := n5 x hx; omega
 have R13 := ((R13.fr0 fa5).fr0 fb5).fr g5 fun x hx hh => by have := n13 x hx; omega
 have R14 := ((R14.fr0 fa5).fr0 fb5).fr g5 fun x hx hh => by have := n14 x hx; omega
 have R15 := ((R15.fr0 fa5).fr0 fb5).fr g5 fun x hx hh => by have := n15 x hx; omega
 have R16 := ((R16.fr0 fa5).fr0 fb5).fr g5 fun x hx hh => by have := n16 x hx; omega
 have R21 := ((R21.fr0 fa5).fr0 fb5).fr g5 fun x hx hh => by have := n21 x hx; omega
 have R22 := ((R22.fr0 fa5).fr0 fb5).fr g5 fun x hx hh => by have := n22 x hx; omega
 have c6 : Own hd5 t1 (aF.vals (⟨⟨b.Rule.Action, b.Rule.Proto, ⟨p2, q2, b.Rule.Src.xs⟩, ⟨p3, q3, b.Rule.Dst.xs⟩, ⟨p4, q4, b.Rule.SrcPorts.xs⟩, ⟨p5, q5, b.Rule.DstPorts.xs⟩, b.Rule.Both, b.Rule.Sid, b.Rule.Rev, b.Rule.Priority, b.Rule.Msg, b.Rule.Dir, b.Rule.Kind, ⟨p13, q13, b.Rule.Transforms.xs⟩, ⟨p14, q14, b.Rule.Contents.xs⟩, ⟨p15, q15, b.Rule.Tests.xs⟩, ⟨p16, q16, b.Rule.Flow.xs⟩, b.Rule.Threshold⟩, ⟨p21, q21, b.Src.xs⟩, ⟨p22, q22, b.Dst.xs⟩, ⟨p23, q23, b.SrcPorts.xs⟩, ⟨p24, q24, b.DstPorts.xs⟩⟩ : aF)) cF := od5
 have d6 := ((d5.fr0 fa5).fr0 fb5).fr g5 fun hh => by omega
 clear k0 k1 k2 k3 k4 k5
 refine (aB (c6.cells.at0 rfl) (aB (c6.cells.at rfl) (aD (c6.cells.at rfl) (aD (c6.cells.at rfl) (aD (c6.cells.at rfl) (aD (c6.cells.at rfl) (aG (c6.cells.at rfl) (aB (c6.cells.at rfl) (aB (c6.cells.at rfl) (aB (c6.cells.at rfl) (aY (c6.cells.at rfl) (aB (c6.cells.at rfl) (aB (c6.cells.at rfl) (aD (c6.cells.at rfl) (aD (c6.cells.at rfl) (aD (c6.cells.at rfl) (aD (c6.cells.at rfl) (aB (c6.cells.at rfl) (aB (c6.cells.at rfl) (aB (c6.cells.at rfl) (aB (c6.cells.at rfl) (aD (c6.cells.at rfl) (aD (c6.cells.at rfl) (aD (c6.cells.at rfl) (aD (c6.cells.at rfl) ?_)))))))))))))))))))))))))
 refine jQ d6 (ws := aF.vals (⟨⟨b.Rule.Action, b.Rule.Proto, ⟨p2, q2, b.Rule.Src.xs⟩, ⟨p3, q3, b.Rule.Dst.xs⟩, ⟨p4, q4, b.Rule.SrcPorts.xs⟩, ⟨p5, q5, b.Rule.DstPorts.xs⟩, b.Rule.Both, b.Rule.Sid, b.Rule.Rev, b.Rule.Priority, b.Rule.Msg, b.Rule.Dir, b.Rule.Kind, ⟨p13, q13, b.Rule.Transforms.xs⟩, ⟨p14, q14, b.Rule.Contents.xs⟩, ⟨p15, q15, b.Rule.Tests.xs⟩, ⟨p16, q16, b.Rule.Flow.xs⟩, b.Rule.Threshold⟩, ⟨p21, q21, b.Src.xs⟩, ⟨p22, q22, b.Dst.xs⟩, ⟨p23, q23, b.SrcPorts.xs⟩, ⟨p24, q24, b.DstPorts.xs⟩⟩ : aF)) (by rfl) (by rfl) fun h9 f9 z9 o9 => ?_
 have zz9 := f9.size
 have F9 : Fr (fun _ => False) h h9 := F6.tr f9 fun x hx hh => by omega
 have k9 := aF.ok_fr _ _ _ F9 ok
 refine (aB (o9.cells.at0 rfl) (aB (o9.cells.at rfl) (aD (o9.cells.at rfl) (aD (o9.cells.at rfl) (aD (o9.cells.at rfl) (aD (o9.cells.at rfl) (aG (o9.cells.at rfl) (aB (o9.cells.at rfl) (aB (o9.cells.at rfl) (aB (o9.cells.at rfl) (aY (o9.cells.at rfl) (aB (o9.cells.at rfl) (aB (o9.cells.at rfl) (aD (o9.cells.at rfl) (aD (o9.cells.at rfl) (aD (o9.cells.at rfl) (aD (o9.cells.at rfl) (aB (o9.cells.at rfl) (aB (o9.cells.at rfl) (aB (o9.cells.at rfl) (aB (o9.cells.at rfl) (aD (o9.cells.at rfl) (aD (o9.cells.at rfl) (aD (o9.cells.at rfl) (aD (o9.cells.at rfl) ?_)))))))))))))))))))))))))
 refine hk (⟨⟨b.Rule.Action, b.Rule.Proto, ⟨p2, q2, b.Rule.Src.xs⟩, ⟨p3, q3, b.Rule.Dst.xs⟩, ⟨p4, q4, b.Rule.SrcPorts.xs⟩, ⟨p5, q5, b.Rule.DstPorts.xs⟩, b.Rule.Both, b.Rule.Sid, b.Rule.Rev, b.Rule.Priority, b.Rule.Msg, b.Rule.Dir, b.Rule.Kind, ⟨p13, q13, b.Rule.Transforms.xs⟩, ⟨p14, q14, b.Rule.Contents.xs⟩, ⟨p15, q15, b.Rule.Tests.xs⟩, ⟨p16, q16, b.Rule.Flow.xs⟩, b.Rule.Threshold⟩, ⟨p21, q21, b.Src.xs⟩, ⟨p22, q22, b.Dst.xs⟩, ⟨p23, q23, b.SrcPorts.xs⟩, ⟨p24, q24, b.DstPorts.xs⟩⟩ : aF) h9 F9 (fun h10 f10 => ?_) rfl
 exact ⟨⟨k9.k0.k0, k9.k0.k1, ((R2.fr f9 fun x hx hh => by have := n2 x hx; omega).fr f10 fun x hx hh => hh (by have := n2 x hx; omega)).sl ng (by decide) k9.k0.k2.cap (fun x hx => by obtain ⟨m, hm, rfl⟩ := List.mem_iff_getElem.1 hx; obtain ⟨_, _, _, hx⟩ := k9.k0.k2.at_ m hm; exact xj hx), ((R3.fr f9 fun x hx hh => by have := n3 x hx; omega).fr f10 fun x hx hh => hh (by have := n3 x hx; omega)).sl ng (by decide) k9.k0.k3.cap (fun x hx => by obtain ⟨m, hm, rfl⟩ := List.mem_iff_getElem.1 hx; obtain ⟨_, _, _, hx⟩ := k9.k0.k3.at_ m hm; exact xj hx), ((R4.fr f9 fun x hx hh => by have := n4 x hx; omega).fr f10 fun x hx hh => hh (by have := n4 x hx; omega)).sl ns (by decide) k9.k0.k4.cap (fun x hx => by obtain ⟨m, hm, rfl⟩ := List.mem_iff_getElem.1 hx; obtain ⟨_, _, _, hx⟩ := k9.k0.k4.at_ m hm; exact xi hx), ((R5.fr f9 fun x hx hh => by have := n5 x hx; omega).fr f10 fun x hx hh => hh (by have := n5 x hx; omega)).sl ns (by decide) k9.k0.k5.cap (fun x hx => by obtain ⟨m, hm, rfl⟩ := List.mem_iff_getElem.1 hx; obtain ⟨_, _, _, hx⟩ := k9.k0.k5.at_ m hm; exact xi hx), k9.k0.k6, k9.k0.k7, k9.k0.k8, k9.k0.k9, k9.k0.k10, k9.k0.k11, k9.k0.k12, ((R13.fr f9 fun x hx hh => by have := n13 x hx; omega).fr f10 fun x hx hh => hh (by have := n13 x hx; omega)).sl yQ (by decide) k9.k0.k13.cap (fun x hx => by obtain ⟨m, hm, rfl⟩ := List.mem_iff_getElem.1 hx; obtain ⟨_, _, _, hx⟩ := k9.k0.k13.at_ m hm; exact JS hx), ((R14.fr f9 fun x hx hh => by have := n14 x hx; omega).fr f10 fun x hx hh => hh (by have := n14 x hx; omega)).sl rv (by decide) k9.k0.k14.cap (fun x hx => by obtain ⟨m, hm, rfl⟩ := List.mem_iff_getElem.1 hx; obtain ⟨_, _, _, hx⟩ := k9.k0.k14.at_ m hm; exact DK hx), ((R15.fr f9 fun x hx hh => by have := n15 x hx; omega).fr f10 fun x hx hh => hh (by have := n15 x hx; omega)).sl xe (by decide) k9.k0.k15.cap (fun x hx => by obtain ⟨m, hm, rfl⟩ := List.mem_iff_getElem.1 hx; obtain ⟨_, _, _, hx⟩ := k9.k0.k15.at_ m hm; exact G8 hx), ((R16.fr f9 fun x hx hh => by have := n16 x hx; omega).fr f10 fun x hx hh => hh (by have := n16 x hx; omega)).sl tB (by decide) k9.k0.k16.cap (fun x hx => by obtain ⟨m, hm, rfl⟩ := List.mem_iff_getElem.1 hx; obtain ⟨_, _, _, hx⟩ := k9.k0.k16.at_ m hm; exact Ei hx), AH k9.k0.k17⟩, ((R21.fr f9 fun x hx hh => by have := n21 x hx; omega).fr f10 fun x hx hh => hh (by have := n21 x hx; omega)).sl sP (by decide) k9.k1.cap (fun x hx => by obtain ⟨m, hm, rfl⟩ := List.mem_iff_getElem.1 hx; obtain ⟨_, _, _, hx⟩ := k9.k1.at_ m hm; exact Bu hx), ((R22.fr f9 fun x hx hh => by have := n22 x hx; omega).fr f10 fun x hx hh => hh (by have := n22 x hx; omega)).sl sP (by decide) k9.k2.cap (fun x hx => by obtain ⟨m, hm, rfl⟩ := List.mem_iff_getElem.1 hx; obtain ⟨_, _, _, hx⟩ := k9.k2.at_ m hm; exact Bu hx), ((R23.fr f9 fun x hx hh => by have := n23 x hx; omega).fr f10 fun x hx hh => hh (by have := n23 x hx; omega)).sl uQ (by decide) k9.k3.cap (fun x hx => by obtain ⟨m, hm, rfl⟩ := List.mem_iff_getElem.1 hx; obtain ⟨_, _, _, hx⟩ := k9.k3.at_ m hm; exact Di hx), ((R24.fr f9 fun x hx hh => by have := n24 x hx; omega).fr f10 fun x hx hh => hh (by have := n24 x hx; omega)).sl uQ (by decide) k9.k4.cap (fun x hx => by obtain ⟨m, hm, rfl⟩ := List.mem_iff_getElem.1 hx; obtain ⟨_, _, _, hx⟩ := k9.k4.at_ m hm; exact Di hx)⟩
end Go.Proofs.YtjmfpeiidlpngaaGreatDoor
namespace Go.Proofs.YtjmfpeiidlpngaaGreatDoor
set_option linter.unusedSimpArgs false
set_option linter.unusedVariables false
set_option maxRecDepth 20000
open Go
abbrev Ent (κ : Type) := κ × Value × Nat
section
variable {P : Program} {κ : Type} {enc : κ → Value}
def mkE (enc : κ → Value) (e : Ent κ) : MapEntry := ⟨enc e.1, e.2.1, e.2.2⟩
def prE (e : Ent κ) : κ × Value := (e.1, e.2.1)
def si [DecidableEq κ] (a : κ) : List (Ent κ) → Nat → Option (Nat × Value)
 | [], _ => none
 | e :: es, i => if a = e.1 then some (i, e.2.1) else si a es (i + 1)
structure Jw (P : Program) (kt : TypeId) {κ : Type} [DecidableEq κ] (enc : κ → Value) : Prop where
 same : ∀ a, Instr.sameBits 10000 (enc a) (enc a) = true
 check : ∀ (b : Bool) (a : κ) {h : aA} {K : Unit → aA → Prop}, K () h → wpH P (Instr.checkKey b 10000 kt (enc a)) K h
 find : ∀ (a : κ) (es : List (Ent κ)) {h : aA} {K : Option (Nat × Value) → aA → Prop}, K (si a es 0) h → wpH P (Instr.findKey kt (enc a) (es.map (mkE enc))) K h
structure Lx {κ : Type} (es : List (Ent κ)) (clock : Nat) : Prop where
 keys : (es.map (·.1)).Nodup
 borns : (es.map (·.2.2)).Nodup
 lt : ∀ e ∈ es, e.2.2 < clock
def E0 (enc : κ → Value) (h : aA) (r : Nat) (es : List (Ent κ)) (clock : Nat) : Prop := h[r]? = some (.map (es.map (mkE enc)).toArray clock)
def vz (enc : κ → Value) (h : aA) (r : Nat) (m : List (κ × Value)) : Prop := ∃ es clock, E0 enc h r es clock ∧ Lx es clock ∧ es.map prE = m
def pH {κ : Type} [DecidableEq κ] (m : List (κ × Value)) (a : κ) : Option Value := (m.find? fun e => decide (e.1 = a)).map (·.2)
def CL {κ : Type} [DecidableEq κ] (m : List (κ × Value)) (a : κ) (v : Value) : List (κ × Value) := if (pH m a).isSome then m.map (fun e => if e.1 = a then (e.1, v) else e) else m ++ [(a, v)]
theorem vz.fr {S : Nat → Prop} {h h' : aA} {r : Nat} {m : List (κ × Value)} (I : vz enc h r m) (f : Fr S h h') (hn : ¬ S r) : vz enc h' r m := by
 obtain ⟨es, c, h1, h2, h3⟩ := I; exact ⟨es, c, f.get h1 hn, h2, h3⟩
theorem vz.lt {h : aA} {r : Nat} {m : List (κ × Value)} (I : vz enc h r m) : r < h.size := by
 obtain ⟨es, c, h1, _⟩ := I; exact qs h1
section
variable [DecidableEq κ]
theorem Bn (a : κ) : ∀ (es : List (Ent κ)) (i : Nat), (si a es i).map (·.2) = pH (es.map prE) a
 | [], _ => rfl
 | e :: es, i => by
  unfold si pH
  rw [List.map_cons, List.find?_cons]
  by_cases h : a = e.1
  ·rw [if_pos h]; simp [prE, h]
  ·rw [if_neg h, Bn a es (i + 1)]
   have : decide ((prE e).1 = a) = false := by rw [decide_eq_false_iff_not]; exact fun (h' : e.1 = a) => h h'.symm
   rw [this]; rfl
theorem Bj (a : κ) : ∀ (es : List (Ent κ)) (i j : Nat) (v : Value), si a es i = some (j, v) → ∃ k, ∃ hk : k < es.length, j = i + k ∧ es[k].1 = a ∧ es[k].2.1 = v
 | [], _, _, _, h => by cases h
 | e :: es, i, j, v, h => by
  unfold si at h
  by_cases ha : a = e.1
  ·rw [if_pos ha] at h
   simp only [Option.some.injEq, Prod.mk.injEq] at h
   exact ⟨0, by simp, by omega, ha.symm, h.2⟩
  ·rw [if_neg ha] at h
   obtain ⟨k, hk, e1, e2, e3⟩ := Bj a es (i + 1) j v h
   exact ⟨k + 1, by simp; omega, by omega, e2, e3⟩
theorem wB (a : κ) : ∀ (es : List (Ent κ)) (i : Nat), si a es i = none → ∀ e ∈ es, e.1 ≠ a
 | [], _, _, _, he => by cases he
 | e :: es, i, h, x, hx => by
  unfold si at h
  by_cases ha : a = e.1
  ·rw [if_pos ha] at h; cases h
  ·rw [if_neg ha] at h
   rcases List.mem_cons.1 hx with rfl | hx
   ·exact fun h => ha h.symm
   ·exact wB a es (i + 1) h x hx
end
theorem zy {h : aA} {r : Nat} {o : Obj} (ho : h[r]? = some o) (hn : xK o = true) {K : Obj → aA → Prop} (hk : K o h) : wpH P (getObj r) K h := ⟨o, ho, hn, hk⟩
theorem zD {h : aA} {r : Nat} {o o' : Obj} (ho : h[r]? = some o') (hn : xK o' = true) {K : Unit → aA → Prop} (hk : K () (h.setIfInBounds r o)) : wpH P (setObj r o) K h := ⟨⟨o', ho, hn⟩, hk⟩
theorem wL [DecidableEq κ] {mt kt et : TypeId} (T : Jw P kt enc) (hu : P.underlying mt = some (.map kt et)) {z : Value} (hz : ∀ {h : aA} {K : Value → aA → Prop}, K z h → wpH P (zeroValue et) K h)
  {h : aA} {r : Nat} {m : List (κ × Value)} (I : vz enc h r m) (a : κ) (ok : Bool) {K : Value → aA → Prop}
  (hk : K (if ok then .tuple #[(pH m a).getD z, .bool (pH m a).isSome] else (pH m a).getD z) h) : zp P mt (.map (some r)) (enc a) ok h K := by
 obtain ⟨es, c, h1, h2, rfl⟩ := I
 unfold zp Instr.lookup
 simp only [bind]
 rw [aQ]; refine bT hu ?_
 simp only
 rw [aQ]; refine zy h1 rfl ?_
 simp only [pure, Sem.bind]
 rw [aQ]; refine T.check _ a ?_
 rw [aQ]
 refine T.find a es ?_
 rw [← Bn a es 0] at hk
 cases hf : si a es 0 with
 | none =>
  rw [hf] at hk
  simp only
  rw [aQ]; refine hz ?_
  exact hk
 | some x =>
  rw [hf] at hk
  exact hk
theorem LT {es : List (Ent κ)} {k : Nat} (hk : k < es.length) (f : MapEntry → MapEntry) (e' : Ent κ) (h : f (mkE enc es[k]) = mkE enc e') : ((es.map (mkE enc)).toArray.modify k f) = ((es.set k e').map (mkE enc)).toArray := by
 apply Array.ext_getElem?
 intro i
 rw [Array.getElem?_modify, List.getElem?_toArray, List.getElem?_toArray, List.getElem?_map, List.getElem?_map, List.getElem?_set]
 by_cases e : k = i
 ·subst e
  rw [if_pos rfl, if_pos rfl, if_pos hk, List.getElem?_eq_getElem hk]
  simp [h]
 ·rw [if_neg e, if_neg e]
theorem BT {α β : Type} (f : α → β) (l : List α) (k : Nat) (x : α) : (l.set k x).map f = (l.map f).set k (f x) := List.map_set
theorem zE {α : Type} (l : List α) (k : Nat) (hk : k < l.length) : l.set k l[k] = l := by
 apply List.ext_getElem (by simp)
 intro i h1 h2
 rw [List.getElem_set]
 split
 ·rename_i e; subst e; rfl
 ·rfl
theorem IQ [DecidableEq κ] {m : List (κ × Value)} (nd : (m.map (·.1)).Nodup) {k : Nat} (hk : k < m.length) {a : κ} (ha : m[k].1 = a) (v : Value) : m.map (fun e => if e.1 = a then (e.1, v) else e) = m.set k (a, v) := by
 apply List.ext_getElem (by simp)
 intro i h1 h2
 have hi : i < m.length := by simpa using h1
 rw [List.getElem_map, List.getElem_set]
 split
 ·rename_i e
  split
  ·rw [e]
  ·rename_i hne
   have : i = k := by
    have := (List.getElem_inj (h₀ := by simpa using hi) (h₁ := by simpa using hk) nd).1 (by simp only [List.getElem_map]; rw [e, ha])
    exact this
   exact absurd this.symm hne
 ·rename_i e
  split
  ·rename_i e2; subst e2; exact absurd ha e
  ·rfl
theorem sk [DecidableEq κ] {m : List (κ × Value)} {a : κ} : (pH m a).isSome = true ↔ ∃ e ∈ m, e.1 = a := by
 unfold pH
 rw [Option.isSome_map, List.find?_isSome]
 simp
theorem Bb [DecidableEq κ] {mt kt et : TypeId} (T : Jw P kt enc) (hu : P.underlying mt = some (.map kt et)) {h : aA} {r : Nat} {m : List (κ × Value)} (I : vz enc h r m) (a : κ) (v : Value) {K : aA → Prop}
  (hk : ∀ h', Fr (fun b => b = r) h h' → h'.size = h.size → vz enc h' r (CL m a v) → K h') : rj P mt (.map (some r)) (enc a) v h K := by
 obtain ⟨es, c, h1, h2, rfl⟩ := I
 unfold rj Instr.mapUpdate
 simp only [bind]
 rw [aQ]; refine bT hu ?_
 simp only
 rw [aQ]; refine zy h1 rfl ?_
 simp only
 rw [aQ]; refine T.check _ a ?_
 rw [aQ]
 refine T.find a es ?_
 cases hf : si a es 0 with
 | none =>
  simp only
  refine zD h1 rfl (hk _ (Fr.set _ _ rfl) (by simp) ⟨es ++ [(a, v, c)], c + 1, ?_, ?_, ?_⟩)
  ·unfold E0
   rw [lU h1]; simp [mkE]
  ·have hn := wB a es 0 hf
   refine ⟨?_, ?_, ?_⟩
   ·rw [List.map_append, List.nodup_append]
    refine ⟨h2.keys, by simp, fun x hx y hy => ?_⟩
    obtain ⟨e, he, rfl⟩ := List.mem_map.1 hx
    simp at hy; subst hy
    exact hn e he
   ·rw [List.map_append, List.nodup_append]
    refine ⟨h2.borns, by simp, fun x hx y hy => ?_⟩
    obtain ⟨e, he, rfl⟩ := List.mem_map.1 hx
    simp at hy; subst hy
    have := h2.lt e he; omega
   ·intro e he
    rcases List.mem_append.1 he with he | he
    ·have := h2.lt e he; omega
    ·simp at he; subst he; simp
  ·have hn := wB a es 0 hf
   have : ¬ (pH (es.map prE) a).isSome = true := fun h => by
    obtain ⟨e, he, ha⟩ := sk.1 h
    obtain ⟨x, hx, rfl⟩ := List.mem_map.1 he
    exact hn x hx ha
   unfold CL
   rw [if_neg this]; simp [prE]
 | some x =>
  obtain ⟨j, y⟩ := x
  obtain ⟨k, hkl, ej, ea, ev⟩ := Bj a es 0 j y hf
  have ej : j = k := by omega
  subst ej
  simp only
  rw [aQ]
  have hkey : (((es.map (mkE enc)).toArray[j]?).map (·.key)).getD (enc a) = enc a := by
   simp [hkl, mkE, ea]
  unfold Instr.keyThatStays
  rw [hkey, T.same]
  simp only [if_true]
  refine zD h1 rfl (hk _ (Fr.set _ _ rfl) (by simp) ⟨es.set j (a, v, es[j].2.2), c, ?_, ?_, ?_⟩)
  ·unfold E0
   rw [lU h1, LT hkl _ (a, v, es[j].2.2) (by simp [mkE])]
  ·refine ⟨?_, ?_, fun e he => ?_⟩
   ·rw [BT]; show ((es.map (·.1)).set j a).Nodup
    have : (es.map (·.1)).set j a = es.map (·.1) := by
     have := zE (es.map (·.1)) j (by simpa using hkl)
     simp only [List.getElem_map, ea] at this; exact this
    rw [this]; exact h2.keys
   ·rw [BT]; show ((es.map (·.2.2)).set j es[j].2.2).Nodup
    have : (es.map (·.2.2)).set j es[j].2.2 = es.map (·.2.2) := by
     have := zE (es.map (·.2.2)) j (by simpa using hkl)
     simp only [List.getElem_map] at this; exact this
    rw [this]; exact h2.borns
   ·rcases List.mem_or_eq_of_mem_set he with he | rfl
    ·exact h2.lt e he
    ·exact (h2.lt _ (List.getElem_mem hkl) : es[j].2.2 < c)
  ·have hs : (pH (es.map prE) a).isSome = true := sk.2 ⟨prE es[j], List.mem_map_of_mem (List.getElem_mem hkl), ea⟩
   unfold CL
   rw [if_pos hs, IQ (k := j) (a := a) (by rw [List.map_map]; exact h2.keys) (by simpa using hkl) (by simp [prE, ea]) v, BT]
   rfl
theorem DC {h : aA} {K : Nat → aA → Prop} (enc : κ → Value) (hk : ∀ r h', Fr (fun _ => False) h h' → r = h.size → vz enc h' r [] → K r h') : EG h K :=
 hk _ _ (Fr.push _ _ _) rfl ⟨[], 0, dD, ⟨by simp, by simp, fun _ h => by cases h⟩, rfl⟩
end
end Go.Proofs.YtjmfpeiidlpngaaGreatDoor
namespace Go.Proofs.YtjmfpeiidlpngaaGreatDoor
set_option linter.unusedSimpArgs false
set_option linter.unusedVariables false
set_option maxRecDepth 20000
open Go
section
variable {P : Program}
theorem B7 {et : TypeId} {i : TypeInfo} {z : Value} (hi : P.info? et = some i) (hz : i.zero = some z) {h : aA} {K : Value → aA → Prop} (hk : K z h) : wpH P (zeroValue et) K h := by
 unfold zeroValue; simp only [bind]; rw [aQ]; refine kF hi ?_
 rw [hz]; exact hk
end
end Go.Proofs.YtjmfpeiidlpngaaGreatDoor
namespace Go.Proofs.YtjmfpeiidlpngaaGreatDoor
set_option linter.unusedSimpArgs false
set_option linter.unusedVariables false
set_option maxRecDepth 20000
open Go
section
variable {P : Program} {kt : TypeId}
theorem Ej {v : Value} {d : TypeDesc} (hu : P.underlying kt = some d) (h1 : ∀ l t, d ≠ .array l t) (h2 : ∀ f, d ≠ .struct f) (h3 : ∀ m, d ≠ .interface m) (b : Bool) {h : aA} {K : Unit → aA → Prop} (hk : K () h) : wpH P (Instr.checkKey b (9999 + 1) kt v) K h := by
 unfold Instr.checkKey
 simp only [bind]
 rw [aQ]
 refine bT hu ?_
 cases d <;> first | exact hk | exact absurd rfl (h1 _ _) | exact absurd rfl (h2 _) | exact absurd rfl (h3 _)
theorem xf {κ : Type} [DecidableEq κ] {enc : κ → Value} {d : TypeDesc} (hs : ∀ a b, Instr.sameNow d (enc a) (enc b) = some (decide (a = b))) (a : κ) : ∀ (es : List (Ent κ)) (i : Nat), Instr.findNow d (enc a) (es.map (mkE enc)) i = some (si a es i)
 | [], _ => rfl
 | e :: es, i => by
  rw [List.map_cons]
  unfold Instr.findNow si
  show (match Instr.sameNow d (enc a) (enc e.1) with | some true => some (some (i, e.2.1)) | some false => Instr.findNow d (enc a) (es.map (mkE enc)) (i + 1) | none => none) = _
  rw [hs]
  by_cases h : a = e.1
  ·rw [decide_eq_true h, if_pos h]
  ·rw [decide_eq_false h, if_neg h]
   exact xf hs a es (i + 1)
theorem GG {κ : Type} [DecidableEq κ] {enc : κ → Value} {d : TypeDesc} (hu : P.underlying kt = some d) (hs : ∀ a b, Instr.sameNow d (enc a) (enc b) = some (decide (a = b))) (a : κ) (es : List (Ent κ)) {h : aA} {K : Option (Nat × Value) → aA → Prop} (hk : K (si a es 0) h) : wpH P (Instr.findKey kt (enc a) (es.map (mkE enc))) K h := by
 unfold Instr.findKey
 simp only [bind]
 rw [aQ]
 refine bT hu ?_
 rw [xf hs a es 0]
 exact hk
def zC (k : IntKind) (n : Int) : Value := .int k n
theorem Jt {k : IntKind} (hu : P.underlying kt = some (.int k)) : Jw P kt (zC k) :=
  ⟨fun a => by show (k == k && a == a) = true; simp, fun b a {h K} hk => Ej hu (fun _ _ h => by cases h) (fun _ h => by cases h) (fun _ h => by cases h) b hk,
   fun a es {h K} hk => GG hu (fun a b => by show (if k = k then some (a == b) else none) = _; rw [if_pos rfl]; congr 1) a es hk⟩
end
section
variable {κ : Type} [DecidableEq κ]
theorem GQ {m : List (κ × Value)} {a : κ} (h : pH m a = none) : ∀ e ∈ m, e.1 ≠ a := fun e he hk => by
 have : (pH m a).isSome = true := sk.2 ⟨e, he, hk⟩
 rw [h] at this; cases this
theorem Gy {m : List (κ × Value)} {a : κ} {v : Value} (h : pH m a = some v) : (a, v) ∈ m := by
 unfold pH at h
 rw [Option.map_eq_some_iff] at h
 obtain ⟨e, h1, h2⟩ := h
 have h3 := List.mem_of_find?_eq_some h1
 have h4 := List.find?_some h1
 rw [decide_eq_true_eq] at h4
 rw [← h4, ← h2]; exact h3
theorem JJ {m : List (κ × Value)} {a : κ} (h : ∀ e ∈ m, e.1 ≠ a) (v : Value) : CL m a v = m ++ [(a, v)] := by
 have hs : ¬ (pH m a).isSome = true := fun hh => by
  obtain ⟨e, he, ek⟩ := sk.1 hh
  exact h e he ek
 unfold CL
 rw [if_neg hs]
end
end Go.Proofs.YtjmfpeiidlpngaaGreatDoor
namespace Go.Proofs.YtjmfpeiidlpngaaGreatDoor.Fp
set_option linter.unusedSimpArgs false
set_option linter.unusedVariables false
set_option maxRecDepth 20000
open Go
def yN (c : UInt8) : Bool := (decide (97 ≤ c.toNat) && decide (c.toNat ≤ 122)) || (decide (65 ≤ c.toNat) && decide (c.toNat ≤ 90)) || (decide (48 ≤ c.toNat) && decide (c.toNat ≤ 57)) || c.toNat == 32
theorem Iw [Gh] (c : UInt8) {h : aA} {Q : Value → aA → Prop} (hk : Q (.bool (yN c)) h) : aE Tryz.prog kZ #[.int .u8 c.toNat] h Q := by
 refine uI _ ?_
 simp only [pC]
 unfold yN at hk
 have e32 : ((c.toNat : Int) == 32) = (c.toNat == 32) := by rw [Bool.eq_iff_iff, beq_iff_eq, beq_iff_eq]; omega
 have d1 : decide ((c.toNat : Int) ≥ 97) = decide (97 ≤ c.toNat) := by rw [decide_eq_decide]; omega
 have d2 : decide ((c.toNat : Int) ≤ 122) = decide (c.toNat ≤ 122) := by rw [decide_eq_decide]; omega
 have d3 : decide ((c.toNat : Int) ≥ 65) = decide (65 ≤ c.toNat) := by rw [decide_eq_decide]; omega
 have d4 : decide ((c.toNat : Int) ≤ 90) = decide (c.toNat ≤ 90) := by rw [decide_eq_decide]; omega
 have d5 : decide ((c.toNat : Int) ≥ 48) = decide (48 ≤ c.toNat) := by rw [decide_eq_decide]; omega
 have d6 : decide ((c.toNat : Int) ≤ 57) = decide (c.toNat ≤ 57) := by rw [decide_eq_decide]; omega
 rw [d1, d2, d3, d4, d5, d6, e32]
 revert hk
 cases decide (97 ≤ c.toNat) <;> cases decide (c.toNat ≤ 122) <;> cases decide (65 ≤ c.toNat) <;> cases decide (c.toNat ≤ 90) <;> cases decide (48 ≤ c.toNat) <;> cases decide (c.toNat ≤ 57) <;> intro hk <;> simpa using hk
def oG (seen : List UInt8) : Array Value := ((List.range 256).map fun i => Value.bool (seen.contains (UInt8.ofNat i))).toArray
theorem Em (seen : List UInt8) : (oG seen).size = 256 := by simp [oG]
theorem FJ (seen : List UInt8) (c : UInt8) : (oG seen)[c.toNat]? = some (.bool (seen.contains c)) := by
 have hc := c.toNat_lt
 unfold oG
 rw [List.getElem?_toArray, List.getElem?_map, List.getElem?_range (by omega)]
 simp
theorem Gb (seen : List UInt8) (c : UInt8) : (oG seen).setIfInBounds c.toNat (.bool true) = oG (c :: seen) := by
 have hc := c.toNat_lt
 apply Array.ext_getElem?
 intro i
 rw [Array.getElem?_setIfInBounds]
 unfold oG
 rw [List.getElem?_toArray, List.getElem?_map, List.getElem?_toArray, List.getElem?_map]
 by_cases hi : i < 256
 ·rw [List.getElem?_range hi]
  by_cases e : c.toNat = i
  ·subst e; simp [hc]
  ·rw [if_neg e]
   have : (UInt8.ofNat i == c) = false := by
    rw [beq_eq_false_iff_ne]
    intro h; apply e; rw [← h]; simp; omega
   simp only [Option.map_some, List.contains_cons, this, Bool.false_or]
 ·rw [List.getElem?_eq_none (by simp; omega), if_neg (by omega)]; rfl
def pe : List UInt8 → List UInt8 → Int → Int
 | [], _, n => n
 | c :: r, seen, n => pe r (c :: seen) (n + (if seen.contains c then 0 else 16) - (if yN c then 8 else 0))
def tL (s : List UInt8) : Int := if s = [] then 0 else if 1 > pe s [] s.length then 1 else pe s [] s.length
theorem Jn {h : aA} {a : Addr} {T : TypeId} {seen : List UInt8} (o : Own h a (oG seen).toList T) (c : UInt8) : hcell h (a.add ((c.toNat : Int).toNat * 1)) = some (.bool (seen.contains c)) := by
 rw [Int.toNat_natCast, Nat.mul_one]
 refine o.cells.at ?_
 have := FJ seen c
 simpa using this
theorem Gx : (oG []).toList = List.replicate 256 (Value.bool false) := by
 unfold oG
 simp only [List.contains_nil]
 rw [List.map_const']; simp
theorem HO (seen : List UInt8) (c : UInt8) : (oG seen).toList.set c.toNat (.bool true) = (oG (c :: seen)).toList := by
 rw [← Gb]; simp
theorem B8 (s seen : List UInt8) (n : Int) (k : Nat) (hk : k < s.length) : pe (s.drop k) seen n = pe (s.drop (k + 1)) (s.getD k 0 :: seen) (n + (if seen.contains (s.getD k 0) then 0 else 16) - (if yN (s.getD k 0) then 8 else 0)) := by
 rw [List.drop_eq_getElem_cons hk, pe]
 rw [List.getD_eq_getElem?_getD, List.getElem?_eq_getElem hk]; rfl
theorem DV {seen : List UInt8} {c : UInt8} (h : seen.contains c = true) : oG (c :: seen) = oG seen := by
 unfold oG
 congr 1
 apply List.map_congr_left
 intro i _
 rw [List.contains_cons]
 by_cases e : UInt8.ofNat i = c
 ·rw [e, h]; simp
 ·have : (UInt8.ofNat i == c) = false := by simpa using e
  rw [this, Bool.false_or]
theorem ER [Gh] (s : List UInt8) (hs : s.length < 2 ^ 40) {h : aA} {Q : Value → aA → Prop} (hk : ∀ h', Fr (fun _ => False) h h' → Q (.int .i64 (tL s)) h') :
  aE Tryz.prog ju #[.string (bs s)] h Q := by
 refine vO _ ?_
 unfold p9
 refine CV (fun e => ?_) (fun e => ?_)
 ·subst e; exact hk _ (Fr.refl _ _)
 refine bA fun a h1 f1 ha o1 => ?_
 have o1 : Own h1 a (List.replicate 256 (Value.bool false)) qH := LV (by as_aux_lemma => kernel_rfl) o1
 rw [bN]
 rw [← Gx] at o1
 refine aJ.mk (fun st h' => ∃ (k : Nat) (seen : List UInt8), st.2 = k ∧ k ≤ s.length ∧ Fr (fun _ => False) h h' ∧ Own h' a (oG seen).toList qH ∧ pe (s.drop k) seen st.1 = pe s [] s.length ∧ st.1 ≤ s.length + 16 * k ∧ (s.length : Int) - 8 * k ≤ st.1) (fun st _ => s.length - st.2.toNat)
  ⟨0, [], rfl, by omega, f1, o1, rfl, by simp, by simp⟩ ?_
 rintro ⟨n, i⟩ h2 ⟨k, seen, hi, hkl, f2, o2, hg, hn1, hn2⟩
 simp only at hi hg hn1 hn2
 subst hi
 unfold lB
 refine ifD (fun hlt => ?_) (fun hge => ?_)
 ·have hks : k < s.length := by omega
  have hc := (s.getD k 0).toNat_lt
  refine Cv _ _ _ (by omega) (by omega) ?_
  rw [Int.toNat_natCast]
  refine ⟨by omega, by omega, aG (Jn o2 _) ?_⟩
  have rest : ∀ (n' : Int) (h3 : aA), Fr (fun _ => False) h h3 → Own h3 a (oG (s.getD k 0 :: seen)).toList qH → n' = n + (if seen.contains (s.getD k 0) then 0 else 16) →
    gM (bs s) a n' k s.length k Q (fun s' h' => (∃ (k : Nat) (seen : List UInt8), s'.2 = k ∧ k ≤ s.length ∧ Fr (fun _ => False) h h' ∧ Own h' a (oG seen).toList qH ∧ pe (s.drop k) seen s'.1 = pe s [] s.length ∧ s'.1 ≤ s.length + 16 * k ∧ (s.length : Int) - 8 * k ≤ s'.1) ∧ s.length - s'.2.toNat < s.length - ((k : Int)).toNat) h3 := by
   intro n' h3 f3 o3 en
   unfold gM
   refine Cv _ _ _ (by omega) (by omega) ?_
   rw [Int.toNat_natCast]
   refine Iw _ ⟨_, rfl, ?_⟩
   have hb : (if seen.contains (s.getD k 0) then (0 : Int) else 16) ≤ 16 ∧ 0 ≤ (if seen.contains (s.getD k 0) then (0 : Int) else 16) := by split <;> omega
   rw [B8 s seen n k hks, ← en] at hg
   rw [wr (x := (k : Int) + 1) (by omega) (by omega)]
   refine ifB (fun hcm => ?_) (fun hcm => ?_)
   ·rw [wr (by omega) (by omega)]
    rw [hcm, if_pos rfl] at hg
    exact ⟨⟨k + 1, _, by simp, by omega, f3, o3, hg, by simp only; omega, by simp only; omega⟩, by simp only; omega⟩
   ·rw [hcm, if_neg (by simp), Int.sub_zero] at hg
    exact ⟨⟨k + 1, _, by simp, by omega, f3, o3, hg, by simp only; omega, by simp only; omega⟩, by simp only; omega⟩
  refine ifN (fun hs0 => ?_) (fun hs1 => ?_)
  ·refine Cv _ _ _ (by omega) (by omega) ?_
   rw [Int.toNat_natCast]
   refine ⟨by omega, by omega, ?_⟩
   rw [Int.toNat_natCast, Nat.mul_one]
   refine cH o2 _ (by rw [Array.length_toList, Em]; omega) rfl fun h3 f3 _ o3 => ?_
   rw [HO] at o3
   rw [wr (by omega) (by omega)]
   have hab := ha
   refine rest _ h3 (f2.tr f3 (fun x hx e => ?_)) o3 (by rw [hs0]; simp)
   subst e; rw [ha] at hx; exact absurd hx (Nat.lt_irrefl _)
  ·refine rest _ h2 f2 (by rw [DV hs1]; exact o2) (by rw [hs1]; simp)
 ·have : k = s.length := by omega
  subst this
  unfold lP
  rw [List.drop_length] at hg
  have : tL s = (if (1 : Int) > n then (1 : Int) else n) := by
   unfold tL
   rw [if_neg e, ← hg]; rfl
  rw [← this]
  exact hk _ f2
end Go.Proofs.YtjmfpeiidlpngaaGreatDoor.Fp
namespace Go.Proofs.YtjmfpeiidlpngaaGreatDoor.Fp
set_option linter.unusedSimpArgs false
set_option linter.unusedVariables false
set_option maxRecDepth 20000
open Go
theorem Fn : gW Tryz.prog sE EF Tryz.t4 (.bool false) := ⟨Tryz.underlying102, by kernel_rfl, by kernel_rfl, by kernel_rfl, by decide⟩
def iC (c : UInt8) : UInt8 := if 65 ≤ c.toNat ∧ c.toNat ≤ 90 then c + 32 else c
theorem Jl (c : UInt8) (h1 : 65 ≤ c.toNat) (h2 : c.toNat ≤ 90) : ((iC c).toNat : Int) = c.toNat + 32 := by
 unfold iC; rw [if_pos ⟨h1, h2⟩, UInt8.toNat_add]
 have : (32 : UInt8).toNat = 32 := rfl
 rw [this]; omega
def pA (s : List UInt8) (k : Nat) : List UInt8 := (s.take k).map iC ++ s.drop k
theorem xD (s : List UInt8) (k : Nat) : (pA s k).length = s.length := by unfold pA; simp; omega
theorem EL (s : List UInt8) : pA s 0 = s := by simp [pA]
theorem Gj (s : List UInt8) : pA s s.length = s.map iC := by simp [pA]
theorem Bz (s : List UInt8) (k : Nat) (hk : k < s.length) : (pA s k)[k]? = some (s.getD k 0) := by
 unfold pA
 rw [List.getElem?_append_right (by simp; omega)]
 simp [Nat.min_eq_left (Nat.le_of_lt hk), hk]
theorem Aw (s : List UInt8) (k : Nat) (hk : k < s.length) : pA s (k + 1) = (pA s k).set k (iC (s.getD k 0)) := by
 apply List.ext_getElem?
 intro i
 unfold pA
 rw [List.getElem?_set]
 by_cases h1 : i < k
 ·rw [List.getElem?_append_left (by simp; omega), if_neg (by omega), List.getElem?_append_left (by simp; omega)]
  simp [h1, Nat.lt_succ_of_lt h1]
 ·by_cases h2 : i = k
  ·subst h2
   rw [List.getElem?_append_left (by simp; omega), if_pos rfl, if_pos (by simp; omega)]
   simp [hk]
  ·rw [List.getElem?_append_right (by simp; omega), if_neg (by omega), List.getElem?_append_right (by simp; omega)]
   simp only [List.length_map, List.length_take, List.getElem?_drop]
   congr 1; omega
def CD (h : aA) (a : Option Addr) (c : Nat) (l : List UInt8) : Prop := rJ h a c 1 (eJ l)
theorem CD.at {h : aA} {a : Option Addr} {c : Nat} {l : List UInt8} (o : CD h a c l) {k : Nat} (hk : k < l.length) : ∃ ad, a = some ad ∧ hcell h (ad.add k) = some (.int .u8 (l.getD k 0).toNat) := by
 cases a with
 | none => have := o.1; simp [eJ] at this; subst this; simp at hk
 | some ad =>
  refine ⟨ad, rfl, ?_⟩
  refine o.cells.at ?_
  simp [eJ, wX, hk]
theorem CD.set {h : aA} {ad : Addr} {c : Nat} {l : List UInt8} (o : CD h (some ad) c l) {k : Nat} (hk : k < l.length) (b : UInt8) {K : aA → Prop}
  (hK : ∀ h', Fr (InA (some ad)) h h' → CD h' (some ad) c (l.set k b) → K h') : st1 h (ad.add k) (.int .u8 b.toNat) K := by
 obtain ⟨h1, h2, ds, t, fr, hfr, hg, hc1, hc2, hc3⟩ := o
 have e : ad.add k = ⟨ad.block, k, none⟩ := by
  obtain ⟨b, o, s⟩ := ad; simp only at h1 h2; subst h1 h2; rw [gT, Nat.zero_add]
 rw [jD] at hc2
 rw [e]
 refine ⟨rfl, by rw [kN hg, Array.getElem?_eq_getElem (by omega)]; rfl, qw hg hfr (by omega), ?_⟩
 rw [r5 hg]
 refine hK _ (Fr.set _ _ ⟨ad, rfl, rfl⟩) ⟨h1, h2, _, t, fr, by simpa using hfr, lU hg, by simpa using hc1, by simp [jD]; omega, ?_⟩
 intro i hi
 rw [jD, List.length_set] at hi
 rw [Array.getElem?_setIfInBounds]
 by_cases hik : k = i
 ·subst hik
  rw [if_pos rfl, if_pos (by omega)]
  simp [eJ, wX, hi]
 ·rw [if_neg hik, hc3 i (by rw [jD]; exact hi)]
  simp [eJ, wX, hik]
theorem IX {s : List UInt8} {h : aA} {a : Option Addr} {c : Nat} (o : CD h a c s) : CD h a c (pA s 0) := by rw [EL]; exact o
theorem Im (s : List UInt8) (k : Nat) (hk : k < s.length) (hn : ¬ (65 ≤ (s.getD k 0).toNat ∧ (s.getD k 0).toNat ≤ 90)) : pA s (k + 1) = pA s k := by
 rw [Aw s k hk]
 have : iC (s.getD k 0) = s.getD k 0 := if_neg hn
 rw [this]
 apply List.ext_getElem?
 intro i
 rw [List.getElem?_set]
 split
 ·rename_i e; subst e
  rw [Bz s k hk, if_pos (by rw [xD]; exact hk)]
 ·rfl
theorem yU [Gh] (s : List UInt8) (hs : s.length < 2 ^ 40) {h : aA} {Q : Value → aA → Prop} (hk : ∀ h', Fr (fun _ => False) h h' → Q (.string (bs (s.map iC))) h') :
  aE Tryz.prog lJ #[.string (bs s)] h Q := by
 refine vF _ ?_
 unfold qe
 refine Bo Tryz.underlying9 Tryz.underlying98 Tryz.underlying5 s fun a c h1 f1 ha o1 hc => ⟨_, _, _, rfl, ?_⟩
 refine aJ.mk (fun i h' => ∃ k : Nat, i = k ∧ k ≤ s.length ∧ Fr (fun _ => False) h h' ∧ CD h' a c (pA s k)) (fun i _ => s.length - i.toNat) ⟨0, rfl, by omega, f1, IX o1⟩ ?_
 rintro i h2 ⟨k, rfl, hkl, f2, o2⟩
 unfold lr
 refine ifD (fun hlt => ?_) (fun hge => ?_)
 ·have hks : k < s.length := by omega
  obtain ⟨ad, rfl, hcell⟩ := o2.at (k := k) (by rw [xD]; exact hks)
  have hgd : (pA s k).getD k 0 = s.getD k 0 := by rw [List.getD_eq_getElem?_getD, Bz s k hks]; rfl
  rw [hgd] at hcell
  have hc8 := (s.getD k 0).toNat_lt
  refine bS k rfl hks (aS ?_)
  rw [Int.toNat_natCast, Nat.mul_one]
  refine aB hcell ?_
  have skip : ¬ (65 ≤ (s.getD k 0).toNat ∧ (s.getD k 0).toNat ≤ 90) → (∃ k' : Nat, IntKind.wrap .i64 ((k : Int) + 1) = k' ∧ k' ≤ s.length ∧ Fr (fun _ => False) h h2 ∧ CD h2 (some ad) c (pA s k')) ∧ s.length - (IntKind.wrap .i64 ((k : Int) + 1)).toNat < s.length - ((k : Int)).toNat := fun hn => by
   rw [wr (by omega) (by omega)]
   exact ⟨⟨k + 1, by omega, by omega, f2, by rw [Im s k hks hn]; exact o2⟩, by omega⟩
  refine ifD (fun h65 => ?_) (fun h65 => skip (by omega))
  refine ifD (fun h90 => ?_) (fun h90 => skip (by omega))
  refine bS k rfl hks (aS ?_)
  rw [wr8 (by omega) (by omega), ← Jl _ (by omega) (by omega)]
  refine o2.set (by rw [xD]; exact hks) _ fun h3 f3 o3 => ?_
  rw [← Aw s k hks] at o3
  rw [wr (by omega) (by omega)]
  exact ⟨⟨k + 1, by omega, by omega, f2.tr f3 (fun x hx hi => absurd (ha x hi) (by omega)), o3⟩, by omega⟩
 ·have : k = s.length := by omega
  subst this
  rw [Gj] at o2
  refine sY Tryz.underlying98 Tryz.underlying9 Tryz.underlying5 (l := s.map iC) (by simp) (fun ad hd => by subst hd; exact o2.cells) (fun hd => by subst hd; have := o2.1; simpa [eJ] using this) ⟨_, rfl, ?_⟩
  exact hk _ f2
end Go.Proofs.YtjmfpeiidlpngaaGreatDoor.Fp
namespace Go.Proofs.YtjmfpeiidlpngaaGreatDoor.Fp
set_option linter.unusedSimpArgs false
set_option linter.unusedVariables false
set_option maxRecDepth 20000
open Go
abbrev Cn := aI
def wC (c : Cn) : Bool := c.Not || c.Pattern.isEmpty
def wU (c b : Cn) : Bool := decide (tL c.Pattern > tL b.Pattern) || (tL c.Pattern == tL b.Pattern && decide (c.Pattern.length > b.Pattern.length))
def noC : Cn := ⟨[], false, false, false, 0, 0, false⟩
def eu (all : List Cn) : List Cn → Nat → Int → Int
 | [], _, best => best
 | c :: r, k, best =>
  if wC c then eu all r (k + 1) best
  else if c.Fast then k
  else if best < 0 then eu all r (k + 1) k
  else if wU c (all.getD best.toNat noC) then eu all r (k + 1) k
  else eu all r (k + 1) best
def fN (all : List Cn) : Int := eu all all 0 (-1)
theorem AC (all : List Cn) (k : Nat) (hk : k < all.length) (best : Int) : eu all (all.drop k) k best =
  if wC all[k] then eu all (all.drop (k + 1)) (k + 1) best
  else if all[k].Fast then k
  else if best < 0 then eu all (all.drop (k + 1)) (k + 1) k
  else if wU all[k] (all.getD best.toNat noC) then eu all (all.drop (k + 1)) (k + 1) k
  else eu all (all.drop (k + 1)) (k + 1) best := by
 rw [List.drop_eq_getElem_cons hk, eu]
structure xH (cs : List Cn) : Prop where
 len : cs.length ≤ 70
 pat : ∀ c ∈ cs, c.Pattern.length ≤ 200
theorem IG [Gh] (r : aO) {h : aA} (ok : r.ok h) (sh : xH r.Contents.xs) {Q : Value → aA → Prop} (hk : ∀ h', Fr (fun _ => False) h h' → Q (.int .i64 (fN r.Contents.xs)) h') :
  aE Tryz.prog kU #[.agg r.vals.toArray] h Q := by
 apply u2
 unfold pw
 refine bA fun a h1 f1 ha o1 => ?_
 refine aD (o1.cells.at rfl) ?_
 have oc : bJ 7 aI.vals aI.ok h1 r.Contents := bJ.fr0 aI.ok_fr f1 ok.k14
 generalize hcs : r.Contents = C at *
 clear ok
 have hlen := sh.len
 refine aJ.mk (fun st h' => ∃ k : Nat, st.2 = k ∧ k ≤ C.xs.length ∧ Fr (fun _ => False) h1 h' ∧ eu C.xs (C.xs.drop k) k st.1 = fN C.xs ∧ (st.1 = -1 ∨ ∃ b : Nat, st.1 = b ∧ b < C.xs.length)) (fun st _ => C.xs.length - st.2.toNat)
  ⟨0, rfl, by omega, Fr.refl _ _, rfl, .inl rfl⟩ ?_
 rintro ⟨best, i⟩ h2 ⟨k, hi, hkl, f2, hg, hb⟩
 simp only at hi hg hb
 subst hi
 unfold kV
 refine ifD (fun hlt => ?_) (fun hge => ?_)
 ·have hks : k < C.xs.length := by omega
  have oc2 := bJ.fr0 aI.ok_fr f2 oc
  rw [AC _ k hks] at hg
  have hpat := sh.pat _ (List.getElem_mem hks)
  refine eN oc2 k rfl hks fun ad cc okc => ?_
  rw [Int.toNat_natCast]
  refine (aY (cc.at0 rfl) (aG (cc.at rfl) (aG (cc.at rfl) (aG (cc.at rfl) (aB (cc.at rfl) (aB (cc.at rfl) (aG (cc.at rfl) ?_)))))))
  refine rm rfl rfl fun t5 h3 f3 ht5 o5 => ?_
  have f13 := f2.trans f3
  have next : ∀ (b' : Int) (h' : aA), Fr (fun _ => False) h1 h' → eu C.xs (C.xs.drop (k + 1)) (k + 1) b' = fN C.xs → (b' = -1 ∨ ∃ b : Nat, b' = b ∧ b < C.xs.length) →
    (∃ k' : Nat, (b', IntKind.wrap .i64 ((k : Int) + 1)).2 = k' ∧ k' ≤ C.xs.length ∧ Fr (fun _ => False) h1 h' ∧ eu C.xs (C.xs.drop k') k' (b', IntKind.wrap .i64 ((k : Int) + 1)).1 = fN C.xs ∧ ((b', IntKind.wrap .i64 ((k : Int) + 1)).1 = -1 ∨ ∃ b : Nat, (b', IntKind.wrap .i64 ((k : Int) + 1)).1 = b ∧ b < C.xs.length)) ∧ C.xs.length - ((b', IntKind.wrap .i64 ((k : Int) + 1)).2).toNat < C.xs.length - k := by
   intro b' h' f' hg' hb'
   rw [wr (by omega) (by omega)]
   exact ⟨⟨k + 1, by simp, by omega, f', hg', hb'⟩, by simp only; omega⟩
  refine aG (o5.cells.at rfl) ?_
  refine ifB (fun hn => ?_) (fun hn => ?_)
  ·rw [if_pos (by simp [wC, hn])] at hg
   exact next _ _ f13 hg hb
  refine aY (o5.cells.at0 rfl) ?_
  refine CV (fun he => ?_) (fun he => ?_)
  ·rw [if_pos (by simp [wC, he])] at hg
   exact next _ _ f13 hg hb
  rw [if_neg (by simp [wC, hn, he])] at hg
  refine aG (o5.cells.at rfl) ?_
  refine ifB (fun hf => ?_) (fun hf => ?_)
  ·rw [if_pos hf] at hg
   have := hk _ (f1.trans f13)
   rw [← hg] at this; exact this
  rw [if_neg (by simp [hf])] at hg
  refine ifD (fun hneg => ?_) (fun hneg => ?_)
  ·rw [if_pos hneg] at hg
   exact next _ _ f13 hg (.inr ⟨k, rfl, hks⟩)
  rw [if_neg hneg] at hg
  obtain ⟨b, rfl, hbl⟩ : ∃ b : Nat, best = b ∧ b < C.xs.length := by
   rcases hb with hb | hb
   ·omega
   ·exact hb
  have o1' : Own h3 a _ _ := Own.fr0 f13 o1
  refine aD (o1'.cells.at rfl) ?_
  have oc3 := bJ.fr0 aI.ok_fr f13 oc
  have hbpat := sh.pat _ (List.getElem_mem hbl)
  have eC : r.Contents.p = C.p ∧ r.Contents.xs.length = C.xs.length := by rw [hcs]; exact ⟨rfl, rfl⟩
  refine eN oc3 b rfl hbl fun ad2 cb okb => ?_
  rw [Int.toNat_natCast]
  refine (aY (cb.at0 rfl) (aG (cb.at rfl) (aG (cb.at rfl) (aG (cb.at rfl) (aB (cb.at rfl) (aB (cb.at rfl) (aG (cb.at rfl) ?_)))))))
  refine rm rfl rfl fun t6 h5 f5 ht6 o6 => ?_
  have o5' := Own.fr0 f5 o5
  refine aY (o5'.cells.at0 rfl) (aY (o6.cells.at0 rfl) ?_)
  refine ER _ (by omega) fun h6 f6 => ⟨_, rfl, ?_⟩
  have o6' := Own.fr0 f6 o6
  refine ⟨aY (o6'.cells.at0 rfl) rfl, ?_⟩
  refine ER _ (by omega) fun h7 f7 => ⟨_, rfl, ?_⟩
  have f17 := ((f13.trans f5).trans f6).trans f7
  have hgd : C.xs.getD ((b : Int)).toNat noC = C.xs[b] := by
   rw [Int.toNat_natCast, List.getD_eq_getElem?_getD, List.getElem?_eq_getElem hbl]; rfl
  rw [hgd] at hg
  have win : wU C.xs[k] C.xs[b] = true → eu C.xs (C.xs.drop (k + 1)) (k + 1) k = fN C.xs := fun hw => by rw [if_pos hw] at hg; exact hg
  have lose : wU C.xs[k] C.xs[b] = false → eu C.xs (C.xs.drop (k + 1)) (k + 1) b = fN C.xs := fun hw => by rw [if_neg (by simp [hw])] at hg; exact hg
  refine ifD (fun hgt => ?_) (fun hgt => ?_)
  ·exact next _ _ f17 (win (by simp [wU, hgt])) (.inr ⟨k, rfl, hks⟩)
  refine ifE (fun heq => ?_) (fun hne => ?_)
  ·have o5'' := Own.fr0 f7 (Own.fr0 f6 o5')
   have o6'' := Own.fr0 f7 o6'
   refine aY (o5''.cells.at0 rfl) (aY (o6''.cells.at0 rfl) ?_)
   rw [bN, bN]
   refine ifD (fun hl => ?_) (fun hl => ?_)
   ·exact next _ _ f17 (win (by unfold wU; rw [heq]; simp; omega)) (.inr ⟨k, rfl, hks⟩)
   ·exact next _ _ f17 (lose (by unfold wU; rw [heq]; simp; omega)) (.inr ⟨b, rfl, hbl⟩)
  ·exact next _ _ f17 (lose (by unfold wU; simp [hne]; omega)) (.inr ⟨b, rfl, hbl⟩)
 ·have : k = C.xs.length := by omega
  subst this
  rw [List.drop_length] at hg
  have := hk _ (f1.trans f2)
  rw [← hg] at this; exact this
end Go.Proofs.YtjmfpeiidlpngaaGreatDoor.Fp
namespace Go.Proofs.YtjmfpeiidlpngaaGreatDoor
set_option linter.unusedSimpArgs false
set_option linter.unusedVariables false
set_option maxRecDepth 20000
open Go
section
variable {P : Program}
theorem wA {b : Builtin} {ts : Array TypeId} {ty : TypeId} {cs : Array Bool} {args : Array Value} {s : Sem Value} {h : aA} {K : Value → aA → Prop}
  (hb : builtin b ts ty cs args = (do pure (.value (← s)))) (hk : wpH P s K h) : dU P b ts ty cs args h K := by
 unfold dU; rw [hb]; simp only [bind]; rw [aQ]; exact hk
theorem Is {dT sT ty e T : TypeId} {cs : Array Bool} (hd : P.underlying dT = some (.slice e)) (he : (P.info? e).isSome) (hz : gV P e = 1) {h : aA} {a : Addr} {vs : List Value} (o : Own h a vs T) (l : List UInt8)
  (hl : vs.length = l.length) {c : Nat} {K : Value → aA → Prop} (hk : ∀ h', Fr (fun b => b = a.block) h h' → Own h' a (eJ l) T → K (.int .i64 l.length) h') :
  dU P .copy #[dT, sT] ty cs #[.slice (some a) l.length c, .string (bs l)] h K := by
 refine wA (s := Builtin.copy_ #[dT, sT] ty #[.slice (some a) l.length c, .string (bs l)]) rfl ?_
 unfold Builtin.copy_
 simp only [List.getElem?_toArray, List.getElem?_cons_zero, List.getElem?_cons_succ, bind]
 rw [aQ]; refine bT hd ?_
 simp only
 unfold Builtin.lenOf
 simp only [pure, Sem.bind]
 rw [aQ]; refine r4 he ?_
 have hsz : (bs l).size = l.length := bN l
 have hmin : Nat.min l.length l.length = l.length := Nat.min_self _
 rw [hz, hsz, hmin, aQ]
 unfold Builtin.firstCells
 simp only [pure, wpH, Nat.mul_one]
 have hx : ((bs l).extract 0 l.length).data.map (fun b => Value.int .u8 b.toNat) = (eJ l).toArray := by
  have : (bs l).extract 0 l.length = bs l := by rw [tK]; simp
  rw [this]; apply Array.ext'; simp [bs, eJ, wX]
 rw [hx]
 rw [aQ]
 have hadd : ∀ i, a.add i = ⟨a.block, 0 + i, none⟩ := fun i => by rw [o.mk_eq, gT]
 refine sB hadd (eJ l) 0 _ h o.blk (.inl rfl) (B6 l) (by simp [jD, hl]) ?_
 simp only [wpH, goInt]
 refine hk _ (Fr.set _ _ rfl) ⟨o.off, o.spot, ?_⟩
 rw [lU o.blk]
 rw [wt (eJ l) vs (by rw [jD, hl])]
theorem vY {h : aA} {K : ByteArray → aA → Prop} : ∀ (l : List UInt8) (a : Addr) (acc : ByteArray), (∀ j, j < l.length → hcell h (a.add j) = some (.int .u8 (l.getD j 0).toNat)) → K ⟨acc.data ++ l.toArray⟩ h → wpH P (loadBytes a acc l.length) K h
 | [], a, acc, _, hk => by simpa [loadBytes, pure, wpH] using hk
 | x :: l, a, acc, hc, hk => by
  have h0 := hc 0 (by simp)
  unfold loadBytes
  simp only [List.length_cons, bind]
  refine ⟨_, h0, ?_⟩
  have hx : ((((x :: l).getD 0 0).toNat : Int)).toNat.toUInt8 = x := by simp
  simp only [Sem.bind]
  rw [hx]
  refine vY l (a.add 1) (acc.push x) (fun j hj => ?_) ?_
  ·have := hc (j + 1) (by simp; omega)
   have e : (a.add 1).add j = a.add (j + 1) := by
    unfold Addr.add
    obtain ⟨b, o, s⟩ := a
    cases j <;> simp [Nat.add_assoc, Nat.add_comm]
   rw [e, this]; simp
  ·have : (acc.push x).data ++ l.toArray = acc.data ++ (x :: l).toArray := by simp [ByteArray.push]
   rw [this]; exact hk
theorem Cp {pt iT ty e : TypeId} {cs : Array Bool} (hp : P.underlying pt = some (.pointer e)) (hc : P.cellsOf e = 1) {h : aA} {a : Addr} {l : List UInt8} (o : Own h a (eJ l) e) (hl : l.length ≤ 9223372036854775807)
  {K : Value → aA → Prop} (hk : ∀ h', Fr (fun b => b = a.block) h h' → K (.string (bs l)) h') : dU P .unsafeString #[pt, iT] ty cs #[.pointer (some a), .int .i64 l.length] h K := by
 refine wA (s := Builtin.unsafeString_ #[pt, iT] ty #[.pointer (some a), .int .i64 l.length]) rfl ?_
 have hdef : Builtin.unsafeString_ #[pt, iT] ty #[.pointer (some a), .int .i64 (l.length : Int)] =
   (do
    if (l.length : Int) < 0 then runtimePanic (.error "unsafe.String: len out of range")
    if (l.length : Int) > IntKind.i64.max then unsupported (.unsafePointer "String: a length above the largest int")
    if (l.length : Int) = 0 then pure (.string .empty)
    else if ← variablesAt a (← elemOf pt) ((l.length : Int)).toNat then do
     let s ← loadBytes a .empty ((l.length : Int)).toNat
     freeze a ((l.length : Int)).toNat
     pure (.string s)
    else unsupported (.unsafePointer "String: not so many bytes at ptr")) := rfl
 rw [hdef]
 simp only [bind, pure, Sem.bind]
 rw [if_neg (by omega), if_neg (by rw [LR]; omega)]
 by_cases h0 : l = []
 ·subst h0
  rw [if_pos (by simp)]
  exact hk h (Fr.refl _ _)
 ·have hne : ¬ ((l.length : Int) = 0) := by
   intro e; apply h0; exact List.length_eq_zero_iff.1 (by omega)
  rw [if_neg hne]
  unfold elemOf
  simp only [bind]
  rw [aQ, aQ]
  refine bT hp ?_
  simp only [pure, wpH]
  unfold variablesAt program shape
  simp only [bind, pure, Sem.bind, wpH]
  have hs : Co h a.block = some (e, l.length) := by
   unfold Co; rw [o.blk]; simp [jD]
  rw [hs]
  simp only [Sem.bind, wpH]
  rw [hc, Nat.div_one, o.off, Int.toNat_natCast, Lib.liesAt_bytes hc l.length l.length (Nat.le_refl _)]
  rw [if_pos rfl, aQ]
  refine vY l a .empty (fun j hj => ?_) ?_
  ·have := o.cells.at (j := j) (v := .int .u8 (l.getD j 0).toNat) (by simp [eJ, wX, hj])
   exact this
  ·unfold freeze
   simp only [Sem.bind, wpH]
   have e1 : (⟨ByteArray.empty.data ++ l.toArray⟩ : ByteArray) = bs l := by
    have : ByteArray.empty.data ++ l.toArray = l.toArray := Array.empty_append
    rw [this]; rfl
   rw [e1]
   refine hk _ ⟨?_, fun b hb hn => ?_⟩
   ·unfold qi; split <;> simp
   ·unfold qi; split
    ·rfl
    ·rw [Array.getElem?_modify, if_neg (fun e => hn e.symm)]
end
end Go.Proofs.YtjmfpeiidlpngaaGreatDoor
namespace Go.Proofs.YtjmfpeiidlpngaaGreatDoor.Fp
set_option linter.unusedSimpArgs false
set_option linter.unusedVariables false
set_option maxRecDepth 20000
open Go
theorem DL : gW Tryz.prog aV pb Tryz.t5 (.int .u8 0) := ⟨Tryz.underlying98, by kernel_rfl, by kernel_rfl, by kernel_rfl, by decide⟩
theorem Fe [Gh] (s : List UInt8) (hs : s.length < 2 ^ 40) {h : aA} {Q : Value → aA → Prop} (hk : ∀ h', Fr (fun _ => False) h h' → Q (.string (bs s)) h') :
  aE Tryz.prog lW #[.string (bs s)] h Q := by
 apply yD
 unfold uc
 have inner : aE Tryz.prog gP #[.string (bs s)] h (fun v h' => v = .string (bs s) ∧ Fr (fun _ => False) h h') := by
  apply pL
  unfold kD
  rw [bN]
  refine ifE (fun h0 => ?_) (fun h0 => ?_)
  ·have : s = [] := List.length_eq_zero_iff.1 (by omega)
   subst this; exact ⟨rfl, Fr.refl _ _⟩
  have eb : (Tryz.t5).bytes = 1 := by kernel_rfl
  refine yK DL s.length rfl (by rw [eb]; omega) fun a h1 f1 ha o1 => ⟨_, _, _, rfl, ?_⟩
  refine Is Tryz.underlying98 (by kernel_rfl) (by kernel_rfl) o1 s (by show (List.replicate s.length [Value.int .u8 0]).flatten.length = _; simp) fun h2 f2 o2 => ⟨_, rfl, ?_⟩
  have f02 : Fr (fun _ => False) h h2 := f1.tr f2 (fun x hx e => by subst e; rw [ha] at hx; exact absurd hx (Nat.lt_irrefl _))
  refine bS 0 rfl (by omega) (aS ?_)
  refine Cp Tryz.underlying248 (by kernel_rfl) o2 (by omega) fun h3 f3 => ⟨_, rfl, rfl, ?_⟩
  exact f02.tr f3 (fun x hx e => by subst e; rw [ha] at hx; exact absurd hx (Nat.lt_irrefl _))
 refine inner.mono ?_
 rintro v h' ⟨rfl, f⟩
 exact ⟨_, rfl, hk _ f⟩
def uy (cs : List Cn) : Option (List UInt8 × Bool) :=
 if fN cs < 0 then none else
  let c := cs.getD (fN cs).toNat noC
  some (if c.Nocase then c.Pattern.map iC else c.Pattern, c.Nocase)
def Km (cs : List Cn) : Value := match uy cs with
 | none => .tuple #[.agg #[.string (bs []), .bool false], .bool false]
 | some (t, n) => .tuple #[.agg #[.string (bs t), .bool n], .bool true]
theorem u6 (all : List Cn) : ∀ (l : List Cn) (k : Nat) (best : Int), k + l.length = all.length → best < all.length → eu all l k best < all.length
 | [], _, _, _, hb => hb
 | c :: r, k, best, hl, hb => by
  simp only [List.length_cons] at hl
  unfold eu
  have i1 := u6 all r (k + 1) best (by omega) hb
  have i2 := u6 all r (k + 1) k (by omega) (by omega)
  split
  ·exact i1
  split
  ·omega
  split
  ·exact i2
  split <;> assumption
theorem tA (all : List Cn) : fN all < all.length := u6 all all 0 (-1) (by simp) (by omega)
end Go.Proofs.YtjmfpeiidlpngaaGreatDoor.Fp
namespace Go.Proofs.YtjmfpeiidlpngaaGreatDoor.Fp
set_option linter.unusedSimpArgs false
set_option linter.unusedVariables false
set_option maxRecDepth 20000
open Go
theorem HH [Gh] {h : aA} {t2 p5 : Addr} {vs : List Value} {t : List UInt8} {n : Bool} (o2 : Own h t2 vs bG) (hl : vs.length = 2) (o5 : Own h p5 [.string (bs t), .bool n] bG) {Q : Value → aA → Prop}
  (hk : ∀ h', Fr (fun b => b = t2.block ∨ b = p5.block) h h' → Q (.tuple #[.agg #[.string (bs t), .bool n], .bool true]) h') : fH t2 p5 Q h := by
 unfold fH
 refine (aY (o5.cells.at0 rfl) (aG (o5.cells.at rfl) ?_))
 refine jQ o2 (by rw [hl]; rfl) rfl fun h1 f1 _ o1 => ?_
 refine (aY (o1.cells.at0 rfl) (aG (o1.cells.at rfl) ?_))
 exact hk _ (f1.mono fun b hb => .inl hb)
theorem K3 [Gh] {h : aA} {t2 p5 : Addr} {vs : List Value} {t : List UInt8} {n : Bool} (ht : t.length < 2 ^ 40) (o2 : Own h t2 vs bG) (hl : vs.length = 2) (o5 : Own h p5 [.string (bs t), .bool n] bG) (ne : t2.block ≠ p5.block) {Q : Value → aA → Prop}
  (hk : ∀ h', Fr (fun b => b = t2.block ∨ b = p5.block) h h' → Q (.tuple #[.agg #[.string (bs (if n then t.map iC else t)), .bool n], .bool true]) h') : dN t2 p5 Q h := by
 unfold dN
 refine aG (o5.cells.at rfl) ?_
 refine ifB (fun hn => ?_) (fun hn => ?_)
 ·subst hn
  refine aY (o5.cells.at0 rfl) ?_
  refine yU t ht fun h1 f1 => ⟨_, rfl, ?_⟩
  refine kG (Own.fr0 f1 o5) (by simp) rfl fun h2 f2 _ o2' => ?_
  have f12 : Fr (fun b => b = t2.block ∨ b = p5.block) h h2 := (f1.mono fun b hb => hb.elim).trans (f2.mono fun b hb => .inr hb)
  refine HH ((Own.fr0 f1 o2).fr f2 ne) hl o2' fun h3 f3 => hk _ ?_
  exact f12.trans f3
 ·subst hn
  exact HH o2 hl o5 hk
theorem FV [Gh] (r : aO) {h : aA} (ok : r.ok h) (sh : xH r.Contents.xs) {Q : Value → aA → Prop} (hk : ∀ h', Fr (fun _ => False) h h' → Q (Km r.Contents.xs) h') :
  aE Tryz.prog kr #[.agg r.vals.toArray] h Q := by
 apply uD
 unfold oi
 refine bA fun a h1 f1 ha o1 => bA fun b h2 f2 hb o2 => ?_
 have o1' := Own.fr0 f2 o1
 have f02 := f1.trans f2
 refine (aB (o1'.cells.at0 rfl) (aB (o1'.cells.at rfl) (aD (o1'.cells.at rfl) (aD (o1'.cells.at rfl) (aD (o1'.cells.at rfl) (aD (o1'.cells.at rfl) (aG (o1'.cells.at rfl) (aB (o1'.cells.at rfl) (aB (o1'.cells.at rfl) (aB (o1'.cells.at rfl) (aY (o1'.cells.at rfl) (aB (o1'.cells.at rfl) (aB (o1'.cells.at rfl) (aD (o1'.cells.at rfl) (aD (o1'.cells.at rfl) (aD (o1'.cells.at rfl) (aD (o1'.cells.at rfl) (aB (o1'.cells.at rfl) (aB (o1'.cells.at rfl) (aB (o1'.cells.at rfl) (aB (o1'.cells.at rfl) ?_)))))))))))))))))))))
 refine IG r (aO.ok_fr _ _ _ f02 ok) sh fun h3 f3 => ⟨_, rfl, ?_⟩
 have o1'' := Own.fr0 f3 o1'
 have o2'' := Own.fr0 f3 o2
 have f03 := f02.trans f3
 have hlt := tA r.Contents.xs
 have fresh : ∀ {h'}, Fr (fun x => x = b.block) h3 h' → Fr (fun _ => False) h h' := fun f => f03.tr f (fun x hx e => by subst e; have := f1.size; omega)
 unfold Km uy at hk
 refine ifD (fun hneg => ?_) (fun hpos => ?_)
 ·rw [if_pos hneg] at hk
  refine jQ o2'' rfl rfl fun h4 f4 _ o4 => ?_
  refine (aY (o4.cells.at0 rfl) (aG (o4.cells.at rfl) ?_))
  exact hk _ (fresh f4)
 ·rw [if_neg hpos] at hk
  simp only at hk
  obtain ⟨k, hk0⟩ : ∃ k : Nat, fN r.Contents.xs = k := ⟨(fN r.Contents.xs).toNat, by omega⟩
  rw [hk0] at hk ⊢
  rw [hk0] at hlt
  have hkl : k < r.Contents.xs.length := by omega
  have hpat := sh.pat _ (List.getElem_mem hkl)
  have hgd : r.Contents.xs.getD ((k : Int)).toNat noC = r.Contents.xs[k] := by
   rw [Int.toNat_natCast, List.getD_eq_getElem?_getD, List.getElem?_eq_getElem hkl]; rfl
  rw [hgd] at hk
  have oc := bJ.fr0 aI.ok_fr f03 ok.k14
  refine aD (o1''.cells.at rfl) ?_
  refine eN oc k rfl hkl fun ad cc okc => ?_
  rw [Int.toNat_natCast]
  refine aY (cc.at0 rfl) ?_
  refine aD (o1''.cells.at rfl) ?_
  refine eN oc k rfl hkl fun ad2 cc2 okc2 => ?_
  refine aG (cc2.at rfl) ?_
  have hb2 : b.block < h3.size := o2''.lt
  have end_ : ∀ (c : Addr) (h' : aA), Fr (fun _ => False) h3 h' → h3.size ≤ c.block → Own h' c [.string (bs r.Contents.xs[k].Pattern), .bool r.Contents.xs[k].Nocase] bG → dN b c Q h' := by
   intro c h' f hc oc
   refine K3 (by omega) (Own.fr0 f o2'') rfl oc (by omega) fun h4 f4 => hk _ ?_
   refine f03.tr ((f.mono (S' := fun x => x = b.block) fun _ h => h.elim).tr f4 fun x hx hs => ?_) (fun x hx e => by subst e; have := f1.size; omega)
   rcases hs with hs | hs
   ·exact hs
   ·omega
  constructor
  ·refine Fe _ (by omega) fun h5 f5 => ⟨_, rfl, ?_⟩
   refine ⟨aD ((Own.fr0 f5 o1'').cells.at rfl) rfl, aG ((bB.fr0 f5 cc2).at rfl) rfl, ?_⟩
   refine HY ?_
   have f6 := f5.trans (Fr.push (fun _ => False) h5 (.cells #[Value.string ⟨#[]⟩, Value.bool false] bG (0, 0)))
   have o6 : Own (h5.push (.cells #[Value.string ⟨#[]⟩, Value.bool false] bG (0, 0))) ⟨h5.size, 0, none⟩ [Value.string ⟨#[]⟩, Value.bool false] bG := ⟨rfl, rfl, dD⟩
   generalize h5.push (.cells #[Value.string ⟨#[]⟩, Value.bool false] bG (0, 0)) = h6 at *
   refine ⟨aD ((Own.fr0 f6 o1'').cells.at rfl) rfl, aY ((bB.fr0 f6 cc).at0 rfl) rfl, aD ((Own.fr0 f6 o1'').cells.at rfl) rfl, aG ((bB.fr0 f6 cc2).at rfl) rfl, ?_⟩
   refine jQ o6 rfl rfl fun h7 f7 _ o7 => ?_
   exact end_ _ _ (f6.tr f7 fun x hx e => by subst e; have := f5.size; simp only at hx; omega) f5.size o7
  ·refine HY ?_
   have f6 := Fr.push (fun _ => False) h3 (.cells #[Value.string ⟨#[]⟩, Value.bool false] bG (0, 0))
   have o6 : Own (h3.push (.cells #[Value.string ⟨#[]⟩, Value.bool false] bG (0, 0))) ⟨h3.size, 0, none⟩ [Value.string ⟨#[]⟩, Value.bool false] bG := ⟨rfl, rfl, dD⟩
   generalize h3.push (.cells #[Value.string ⟨#[]⟩, Value.bool false] bG (0, 0)) = h6 at *
   refine ⟨aD ((Own.fr0 f6 o1'').cells.at rfl) rfl, aY ((bB.fr0 f6 cc).at0 rfl) rfl, aD ((Own.fr0 f6 o1'').cells.at rfl) rfl, aG ((bB.fr0 f6 cc2).at rfl) rfl, ?_⟩
   refine Fe _ (by omega) fun h5 f5 => ⟨_, rfl, ?_⟩
   have f65 := f6.trans f5
   refine ⟨aD ((Own.fr0 f65 o1'').cells.at rfl) rfl, aG ((bB.fr0 f65 cc2).at rfl) rfl, ?_⟩
   refine jQ (Own.fr0 f5 o6) rfl rfl fun h7 f7 _ o7 => ?_
   exact end_ _ _ (f65.tr f7 fun x hx e => by subst e; simp only at hx; omega) (Nat.le_refl _) o7
end Go.Proofs.YtjmfpeiidlpngaaGreatDoor.Fp
namespace Go.Proofs.YtjmfpeiidlpngaaGreatDoor
set_option linter.unusedSimpArgs false
set_option linter.unusedVariables false
set_option maxRecDepth 20000
open Go
def put {ι α : Type} [DecidableEq ι] (f : ι → α) (x : ι) (v : α) : ι → α := fun y => if y = x then v else f y
theorem cB {ι α : Type} [DecidableEq ι] (f : ι → α) (x : ι) (v : α) : put f x v x = v := if_pos rfl
theorem bH {ι α : Type} [DecidableEq ι] (f : ι → α) {x y : ι} (v : α) (h : y ≠ x) : put f x v y = f y := if_neg h
structure Fam {ι : Type} (sz : ι → Nat) (h : aA) (sl : ι → Option Addr) (cap : ι → Nat) (cs : ι → List Value) : Prop where
 own : ∀ x, rJ h (sl x) (cap x) (sz x) (cs x)
 apart : ∀ x y b, InA (sl x) b → InA (sl y) b → x = y
section
variable {ι : Type} {sz : ι → Nat} {h : aA} {sl : ι → Option Addr} {cap : ι → Nat} {cs : ι → List Value}
theorem Fam.fr (F : Fam sz h sl cap cs) {S : Nat → Prop} {h' : aA} (f : Fr S h h') (hs : ∀ x b, InA (sl x) b → ¬ S b) : Fam sz h' sl cap cs :=
 ⟨fun x => (F.own x).fr f (hs x), F.apart⟩
theorem Fam.fr0 (F : Fam sz h sl cap cs) {h' : aA} (f : Fr (fun _ => False) h h') : Fam sz h' sl cap cs := F.fr f fun _ _ _ => id
theorem Fam.lt (F : Fam sz h sl cap cs) {x : ι} {b : Nat} (hb : InA (sl x) b) : b < h.size := (F.own x).lt hb
theorem Fam.none (F : Fam sz h sl cap cs) {x : ι} (hx : sl x = none) : cs x = [] ∧ cap x = 0 := by
 have := F.own x; rw [hx] at this; exact this
theorem Fam.some_of (F : Fam sz h sl cap cs) {x : ι} (hx : (cs x).length ≠ 0) : ∃ ad, sl x = some ad ∧ bB h ad (cs x) := by
 have o := F.own x
 cases hs : sl x with
 | none => rw [hs] at o; rw [o.1] at hx; simp at hx
 | some ad => rw [hs] at o; exact ⟨ad, rfl, o.cells⟩
end
section
variable {ι : Type} [DecidableEq ι] {sz : ι → Nat} {h : aA} {sl : ι → Option Addr} {cap : ι → Nat} {cs : ι → List Value}
theorem Fam.turn (F : Fam sz h sl cap cs) (x : ι) {a' : Option Addr} {cap' : Nat} {cs' : List Value} {h' : aA} (o : rJ h' a' cap' (sz x) cs') (f : Fr (InA (sl x)) h h') (hn : ∀ b, InA a' b → InA (sl x) b ∨ h.size ≤ b) :
  Fam sz h' (put sl x a') (put cap x cap') (put cs x cs') := by
 refine ⟨fun y => ?_, fun y z b hy hz => ?_⟩
 ·by_cases e : y = x
  ·subst e; rw [cB, cB, cB]; exact o
  ·rw [bH _ _ e, bH _ _ e, bH _ _ e]
   exact (F.own y).fr f fun b hb hx => e (F.apart _ _ _ hb hx)
 ·by_cases ey : y = x
  ·by_cases ez : z = x
   ·rw [ey, ez]
   ·rw [ey, cB] at hy; rw [bH _ _ ez] at hz
    rcases hn b hy with hb | hb
    ·rw [ey]; exact F.apart _ _ _ hb hz
    ·have := F.lt hz; omega
  ·rw [bH _ _ ey] at hy
   by_cases ez : z = x
   ·rw [ez, cB] at hz
    rcases hn b hz with hb | hb
    ·rw [ez]; exact F.apart _ _ _ hy hb
    ·have := F.lt hy; omega
   ·rw [bH _ _ ez] at hz; exact F.apart _ _ _ hy hz
theorem Fam.app {P : Program} {sT xT ty el : TypeId} {consts : Array Bool} {i : TypeInfo} {z : Value} {d : TypeDesc} (t : gW P sT el i z) (hX : P.underlying xT = some d) (hd : ∀ k, d ≠ .int k)
  (F : Fam sz h sl cap cs) (x : ι) (hz : sz x = i.size) {n m : Nat} {xs : List Value} {v : Value} (hn : (cs x).length = n * sz x) (hnc : n ≤ cap x) (s : Src h i.size v m xs) (hv : ∀ v ∈ xs, eQ v = true)
  (hlim : (8 * (n + m) + 4000) * i.bytes ≤ 2 ^ 48) {K : Value → aA → Prop}
  (hk : ∀ (a' : Option Addr) (cap' : Nat) (h' : aA), Fam sz h' (put sl x a') (put cap x cap') (put cs x (cs x ++ xs)) → n + m ≤ cap' → Fr (InA (sl x)) h h' → (∀ b, InA a' b → InA (sl x) b ∨ h.size ≤ b) → K (.slice a' (n + m) cap') h') :
  dU P .append #[sT, xT] ty consts #[.slice (sl x) n (cap x), v] h K := by
 refine wv t hX hd (by rw [← hz]; exact F.own x) (by rw [hn, hz]) hnc s hv hlim fun a' cap' h' o hc f hb => hk a' cap' h' (F.turn x (by rw [hz]; exact o) f hb) hc f hb
theorem rJ.set {h : aA} {ad : Addr} {c n : Nat} {vs : List Value} (o : rJ h (some ad) c n vs) {j : Nat} (hj : j < vs.length) {v : Value} (hv : eQ v = true) {K : aA → Prop}
  (hK : ∀ h', Fr (InA (some ad)) h h' → rJ h' (some ad) c n (vs.set j v) → K h') : st1 h (ad.add j) v K := by
 obtain ⟨h1, h2, ds, t, fr, hfr, hg, hc1, hc2, hc3⟩ := o
 have e : ad.add j = ⟨ad.block, j, none⟩ := by
  obtain ⟨b, o, s⟩ := ad; simp only at h1 h2; subst h1 h2; rw [gT, Nat.zero_add]
 rw [e]
 refine ⟨hv, by rw [kN hg, Array.getElem?_eq_getElem (by omega)]; rfl, qw hg hfr (by omega), ?_⟩
 rw [r5 hg]
 refine hK _ (Fr.set _ _ ⟨ad, rfl, rfl⟩) ⟨h1, h2, _, t, fr, by simpa using hfr, lU hg, by simpa using hc1, by simpa using hc2, ?_⟩
 intro i hi
 rw [List.length_set] at hi
 rw [Array.getElem?_setIfInBounds, List.getElem_set]
 by_cases hik : j = i
 ·subst hik
  rw [if_pos rfl, if_pos (by omega), if_pos rfl]
 ·rw [if_neg hik, if_neg hik]; exact hc3 i hi
theorem Fam.set (F : Fam sz h sl cap cs) (x : ι) {ad : Addr} (hx : sl x = some ad) {j : Nat} (hj : j < (cs x).length) {v : Value} (hv : eQ v = true) {K : aA → Prop}
  (hk : ∀ h', Fam sz h' sl cap (put cs x ((cs x).set j v)) → Fr (InA (sl x)) h h' → K h') : st1 h (ad.add j) v K := by
 have o := F.own x
 rw [hx] at o
 refine o.set hj hv fun h' f o' => hk h' ?_ (by rw [hx]; exact f)
 have := F.turn x (a' := some ad) (cap' := cap x) (cs' := (cs x).set j v) (h' := h') o' (by rw [hx]; exact f) (fun b hb => .inl (by rw [hx]; exact hb))
 have e1 : put sl x (some ad) = sl := by funext y; unfold put; split <;> first | rfl | (rename_i e; rw [e, hx])
 have e2 : put cap x (cap x) = cap := by funext y; unfold put; split <;> first | rfl | (rename_i e; rw [e])
 rw [e1, e2] at this; exact this
end
theorem Src.one {h : aA} {a : Addr} {T : TypeId} {vs : List Value} {sz : Nat} (o : Own h a vs T) (hl : vs.length = sz) (c : Nat) : Src h sz (.slice (some a) 1 c) 1 vs :=
 .sl a 1 c vs (by omega) o.cells
end Go.Proofs.YtjmfpeiidlpngaaGreatDoor
namespace Go.Proofs.YtjmfpeiidlpngaaGreatDoor.Fp
set_option linter.unusedSimpArgs false
set_option linter.unusedVariables false
set_option maxRecDepth 20000
open Go
abbrev Ru := aO
abbrev uU (l : List Int) : List Value := l.map fun n => Value.int .i64 n
abbrev iA (h : aA) (s : Sl Int) : Prop := bJ 1 (fun n : Int => [Value.int .i64 n]) (kOk .i64) h s
structure Grp where
 kind : Int
 tr : List Int
 pats : List (List UInt8 × Bool)
 rules : List (List Int)
 always : List Int
def rX (k : Nat) (r : Ru) (g : Grp) : Grp :=
 match uy r.Contents.xs with
 | none => { g with always := g.always ++ [(k : Int)] }
 | some p =>
  if g.pats.findIdx (· == p) = g.pats.length then { g with pats := g.pats ++ [p], rules := g.rules ++ [[(k : Int)]] }
  else { g with rules := g.rules.modify (g.pats.findIdx (· == p)) (· ++ [(k : Int)]) }
def r6 (r : Ru) (g : Grp) : Bool := g.kind == r.Kind && g.tr == r.Transforms.xs
def tY (r : Ru) (gs : List Grp) : List Grp := if gs.findIdx (r6 r) = gs.length then gs ++ [⟨r.Kind, r.Transforms.xs, [], [], []⟩] else gs
def yB (k : Nat) (r : Ru) (gs : List Grp) : List Grp := (tY r gs).modify (gs.findIdx (r6 r)) (rX k r)
def fT : List Ru → Nat → List Grp → List Grp
 | [], _, gs => gs
 | r :: l, k, gs => fT l (k + 1) (yB k r gs)
def ph (l : List Ru) : List Grp := fT l 0 []
structure se (k : Nat) (gs : List Grp) : Prop where
 len : gs.length ≤ k
 g : ∀ g ∈ gs, g.pats.length ≤ k ∧ g.rules.length = g.pats.length ∧ g.always.length ≤ k ∧ ∀ l ∈ g.rules, l.length ≤ k
theorem mT {α : Type} {f : α → α} : ∀ {l : List α} {i : Nat} {x : α}, x ∈ l.modify i f → x ∈ l ∨ ∃ y ∈ l, x = f y
 | [], i, x, h => by simp at h
 | a :: l, 0, x, h => by
  rw [List.modify_zero_cons] at h
  rcases List.mem_cons.1 h with rfl | h
  ·exact .inr ⟨a, by simp, rfl⟩
  ·exact .inl (by simp [h])
 | a :: l, i + 1, x, h => by
  rw [List.modify_succ_cons] at h
  rcases List.mem_cons.1 h with rfl | h
  ·exact .inl (by simp)
  ·rcases mT h with h | ⟨y, hy, e⟩
   ·exact .inl (by simp [h])
   ·exact .inr ⟨y, by simp [hy], e⟩
theorem se.add {k : Nat} {gs : List Grp} (s : se k gs) (r : Ru) : se (k + 1) (yB k r gs) := by
 have hs : ∀ g ∈ tY r gs, g.pats.length ≤ k ∧ g.rules.length = g.pats.length ∧ g.always.length ≤ k ∧ ∀ l ∈ g.rules, l.length ≤ k := by
  intro g hg
  unfold tY at hg
  split at hg
  ·rcases List.mem_append.1 hg with hg | hg
   ·exact s.g g hg
   ·rw [List.mem_singleton.1 hg]; simp
  ·exact s.g g hg
 refine ⟨?_, fun g hg => ?_⟩
 ·unfold yB tY; rw [List.length_modify]; split
  ·rw [List.length_append]; have := s.len; simp; omega
  ·have := s.len; omega
 ·rcases mT hg with hg | ⟨y, hy, rfl⟩
  ·obtain ⟨h1, h2, h3, h4⟩ := hs g hg
   exact ⟨by omega, h2, by omega, fun l hl => by have := h4 l hl; omega⟩
  ·obtain ⟨h1, h2, h3, h4⟩ := hs y hy
   unfold rX
   split
   ·exact ⟨by simp only; omega, h2, by simp; omega, fun l hl => by have := h4 l hl; omega⟩
   ·split
    ·refine ⟨by simp; omega, by simp [h2], by simp only; omega, fun l hl => ?_⟩
     rcases List.mem_append.1 hl with hl | hl
     ·have := h4 l hl; omega
     ·rw [List.mem_singleton.1 hl]; simp
    ·refine ⟨by simp only; omega, by simp [h2], by simp only; omega, fun l hl => ?_⟩
     rcases mT hl with hl | ⟨z, hz, rfl⟩
     ·have := h4 l hl; omega
     ·have := h4 z hz; simp; omega
abbrev Ix := Nat × Nat × Nat
abbrev xO : Ix := (0, 0, 0)
abbrev xP (i : Nat) : Ix := (1, i, 0)
abbrev xR (i : Nat) : Ix := (2, i, 0)
abbrev xI (i n : Nat) : Ix := (3, i, n)
abbrev xA (i : Nat) : Ix := (4, i, 0)
def szG (x : Ix) : Nat := if x.1 = 0 then 5 else if x.1 = 1 then 2 else 1
structure Ht (g : Grp) (i : Nat) (tr : Nat → Sl Int) (sl : Ix → Option Addr) (cap : Ix → Nat) (cs : Ix → List Value) : Prop where
 o0 : (cs xO)[i * 5]? = some (.int .i64 g.kind)
 o1 : (cs xO)[i * 5 + 1]? = some (.slice (tr i).p (tr i).xs.length (tr i).cap)
 o2 : (cs xO)[i * 5 + 2]? = some (.slice (sl (xP i)) g.pats.length (cap (xP i)))
 o3 : (cs xO)[i * 5 + 3]? = some (.slice (sl (xR i)) g.rules.length (cap (xR i)))
 o4 : (cs xO)[i * 5 + 4]? = some (.slice (sl (xA i)) g.always.length (cap (xA i)))
 trx : (tr i).xs = g.tr
 pl : cs (xP i) = g.pats.flatMap fun p => [Value.string (bs p.1), Value.bool p.2]
 pc : g.pats.length ≤ cap (xP i)
 rl : (cs (xR i)).length = g.rules.length
 rc : g.rules.length ≤ cap (xR i)
 rg : ∀ n (hn : n < g.rules.length), (cs (xR i))[n]? = some (.slice (sl (xI i n)) g.rules[n].length (cap (xI i n)))
 il : ∀ n (hn : n < g.rules.length), cs (xI i n) = uU g.rules[n] ∧ g.rules[n].length ≤ cap (xI i n)
 ifr : ∀ n, g.rules.length ≤ n → sl (xI i n) = none
 al : cs (xA i) = uU g.always
 ac : g.always.length ≤ cap (xA i)
structure lT (h : aA) (gs : List Grp) (tr : Nat → Sl Int) (sl : Ix → Option Addr) (cap : Ix → Nat) (cs : Ix → List Value) : Prop where
 fam : Fam szG h sl cap cs
 olen : (cs xO).length = gs.length * 5
 ocap : gs.length ≤ cap xO
 row : ∀ i (hi : i < gs.length), Ht gs[i] i tr sl cap cs
 trok : ∀ i, i < gs.length → iA h (tr i) ∧ ((tr i).xs ≠ [] → ∀ x b, InA (tr i).p b → ¬ InA (sl x) b)
 free : ∀ i, gs.length ≤ i → sl (xP i) = none ∧ sl (xR i) = none ∧ sl (xA i) = none ∧ ∀ n, sl (xI i n) = none
 kok : ∀ g ∈ gs, kOk .i64 h g.kind
theorem lT.fr {h h' : aA} {gs : List Grp} {tr : Nat → Sl Int} {sl : Ix → Option Addr} {cap : Ix → Nat} {cs : Ix → List Value} (g : lT h gs tr sl cap cs) (f : Fr (fun _ => False) h h') : lT h' gs tr sl cap cs :=
 ⟨g.fam.fr0 f, g.olen, g.ocap, g.row, fun i hi => ⟨bJ.fr0 yA f (g.trok i hi).1, (g.trok i hi).2⟩, g.free, g.kok⟩
theorem lT.nil (h : aA) : lT h [] (fun _ => ⟨none, 0, []⟩) (fun _ => none) (fun _ => 0) (fun _ => []) :=
 ⟨⟨fun _ => ⟨rfl, rfl⟩, fun _ _ b hb => by obtain ⟨_, h, _⟩ := hb; cases h⟩, rfl, Nat.le_refl _, fun i hi => absurd hi (Nat.not_lt_zero _), fun i hi => absurd hi (Nat.not_lt_zero _), fun _ _ => ⟨rfl, rfl, rfl, fun _ => rfl⟩, fun g hg => by cases hg⟩
theorem zM {b : Nat} : ¬ InA none b := by rintro ⟨_, h, _⟩; cases h
theorem iA.at {h : aA} {s : Sl Int} (o : iA h s) {i : Nat} (hi : i < s.xs.length) : ∃ ad, s.p = some ad ∧ hcell h (ad.add (i * 1)) = some (.int .i64 s.xs[i]) := by
 obtain ⟨ad, h1, h2, _⟩ := o.at_ i hi; exact ⟨ad, h1, h2.at0 rfl⟩
theorem iA.fr {S : Nat → Prop} {h h' : aA} {s : Sl Int} (o : iA h s) (f : Fr S h h') (hs : ∀ b, InA s.p b → ¬ S b) : iA h' s :=
 ⟨o.len, o.cap, fun i hi => by
  obtain ⟨ad, h1, h2, h3⟩ := o.at_ i hi
  exact ⟨ad, h1, h2.fr f (by rw [vq]; exact hs _ ⟨ad, h1, rfl⟩), h3⟩⟩
theorem Jk [Gh] (a b : Sl Int) {h : aA} (oa : iA h a) (ob : iA h b) (hl : b.xs.length < 2 ^ 60) {Q : Value → aA → Prop} (hk : Q (.bool (a.xs == b.xs)) h) :
  aE Tryz.prog jU #[.slice a.p a.xs.length a.cap, .slice b.p b.xs.length b.cap] h Q := by
 apply tz
 unfold nt
 refine oS (fun hne => ?_) (fun heq => ?_)
 ·have : (a.xs == b.xs) = false := by rw [beq_eq_false_iff_ne]; intro e; apply hne; rw [e]
  rw [this] at hk; exact hk
 have hlen : a.xs.length = b.xs.length := by omega
 refine aJ.mk (fun i h' => h' = h ∧ ∃ k : Nat, i = k ∧ k ≤ a.xs.length ∧ a.xs.take k = b.xs.take k) (fun i _ => a.xs.length - i.toNat) ⟨rfl, 0, rfl, by omega, by simp⟩ ?_
 rintro i h' ⟨rfl, k, rfl, hkl, hpre⟩
 unfold jV
 refine ifD (fun hlt => ?_) (fun hge => ?_)
 ·have hka : k < a.xs.length := by omega
  have hkb : k < b.xs.length := by omega
  obtain ⟨ad, ea, ca⟩ := oa.at hka
  obtain ⟨bd, eb, cb⟩ := ob.at hkb
  rw [ea, eb, Int.toNat_natCast]
  refine bS k rfl hka (aS (aB ca ?_))
  refine bS k rfl hkb (aS (aB cb ?_))
  refine oS (fun hne => ?_) (fun heq => ?_)
  ·have : (a.xs == b.xs) = false := by
    rw [beq_eq_false_iff_ne]; intro e; apply hne
    simp only [e]
   rw [this] at hk; exact hk
  ·rw [wr (by omega) (by omega)]
   refine ⟨⟨rfl, k + 1, by omega, by omega, ?_⟩, by omega⟩
   rw [List.take_succ_eq_append_getElem hka, List.take_succ_eq_append_getElem hkb, hpre, heq]
 ·have e1 : k = a.xs.length := by omega
  have : (a.xs == b.xs) = true := by
   rw [beq_iff_eq]
   rw [e1, List.take_length] at hpre
   rw [hlen, List.take_length] at hpre; exact hpre
  rw [this] at hk; exact hk
theorem ti : gW Tryz.prog bL mn Tryz.t3 (.int .i64 0) := ⟨Tryz.underlying46, by kernel_rfl, by kernel_rfl, by kernel_rfl, by decide⟩
theorem EK {h : aA} {s : Sl Int} (o : iA h s) {ad : Addr} (hp : s.p = some ad) : bB h ad (uU s.xs) := by
 intro j hj
 obtain ⟨bd, e, c⟩ := o.at (i := j) (by simpa using hj)
 rw [hp] at e; cases e
 simpa using c
theorem IE [Gh] (s : Sl Int) {h : aA} (o : iA h s) (hl : s.xs.length ≤ 2 ^ 20) {Q : Value → aA → Prop}
  (hk : ∀ (s' : Sl Int) h', Fr (fun _ => False) h h' → iA h' s' → s'.xs = s.xs → (∀ b, InA s'.p b → h.size ≤ b) → Q (.slice s'.p s'.xs.length s'.cap) h') :
  aE Tryz.prog cU #[.slice s.p s.xs.length s.cap] h Q := by
 apply nE
 unfold kb
 refine ifB (fun hn => ?_) (fun hn => ?_)
 ·have hp : s.p = none := by simpa using hn
  have hx : s.xs = [] := by
   cases hs : s.xs with
   | nil => rfl
   | cons x l => obtain ⟨ad, e, _⟩ := o.at (i := 0) (by rw [hs]; simp); rw [hp] at e; cases e
  exact hk ⟨none, 0, []⟩ h (Fr.refl _ _) ⟨Nat.le_refl _, Nat.zero_le _, fun i hi => absurd hi (Nat.not_lt_zero _)⟩ hx.symm (fun b hb => (zM hb).elim)
 ·obtain ⟨ad, hp⟩ : ∃ ad, s.p = some ad := by cases h : s.p with | none => rw [h] at hn; cases hn | some a => exact ⟨a, rfl⟩
  refine bA (vs := []) fun a h1 f1 ha o1 => ?_
  rw [hp]
  have es : (Tryz.t3).size = 1 := by kernel_rfl
  have eb : (Tryz.t3).bytes = 8 := by kernel_rfl
  have hc := EK (bJ.fr0 yA f1 o) hp
  refine wv (a := some a) (cap := 0) ti Tryz.underlying46 (by intro k e; cases e) (n := 0) (cs := []) (xs := uU s.xs) ⟨o1.off, o1.spot, #[], _, (0, 0), .inl rfl, o1.blk, by simp, by simp, fun i hi => absurd hi (by simp)⟩ (by simp) (Nat.le_refl _)
   (.sl ad s.xs.length s.cap _ (by rw [es]; simp) hc) (by intro v hv; obtain ⟨n, _, rfl⟩ := List.mem_map.1 hv; rfl) (by rw [eb]; omega) fun a' c' h2 o2 hc' f2 hb => ⟨_, _, _, rfl, ?_⟩
  have hfr : ∀ b, InA (some a) b → ¬ b < h.size := by rintro b ⟨x, e, rfl⟩ hb; cases e; omega
  have f02 : Fr (fun _ => False) h h2 := f1.tr f2 (fun x hx hi => hfr x hi hx)
  rw [Nat.zero_add] at hc' ⊢
  refine hk ⟨a', c', s.xs⟩ h2 f02 ⟨hc', o.cap, fun i hi => ?_⟩ rfl (fun b hi => ?_)
  ·cases a' with
   | none => have := o2.1; simp at this; simp only at hi; rw [this] at hi; simp at hi
   | some ad' =>
    refine ⟨ad', rfl, fun j hj => ?_, ?_⟩
    ·have hj0 : j = 0 := by simp at hj; exact hj
     subst hj0
     rw [kM]
     refine o2.cells.at ?_
     simp at hi
     simp [hi]
    ·obtain ⟨_, _, _, hok⟩ := o.at_ i hi; exact hok
  ·rcases hb b hi with hb | hb
   ·exact Nat.le_of_not_lt (hfr b hb)
   ·have := f1.size; omega
end Go.Proofs.YtjmfpeiidlpngaaGreatDoor.Fp
namespace Go.Proofs.YtjmfpeiidlpngaaGreatDoor.Fp
set_option linter.unusedSimpArgs false
set_option linter.unusedVariables false
set_option maxRecDepth 20000
open Go
theorem lY {a : Addr} (hs : a.spot = none) (m n : Nat) : (a.add m).add n = a.add (m + n) := by
 obtain ⟨b, o, s⟩ := a
 simp only at hs
 subst hs
 rw [gT, gT, gT, Nat.add_assoc]
section
variable {h : aA} {gs : List Grp} {tr : Nat → Sl Int} {sl : Ix → Option Addr} {cap : Ix → Nat} {cs : Ix → List Value}
theorem lT.out (G : lT h gs tr sl cap cs) {i : Nat} (hi : i < gs.length) : ∃ ad, sl xO = some ad ∧ ad.spot = none ∧ bB h (ad.add (i * 5))
  [.int .i64 gs[i].kind, .slice (tr i).p (tr i).xs.length (tr i).cap, .slice (sl (xP i)) gs[i].pats.length (cap (xP i)), .slice (sl (xR i)) gs[i].rules.length (cap (xR i)), .slice (sl (xA i)) gs[i].always.length (cap (xA i))] := by
 obtain ⟨ad, e, c⟩ := G.fam.some_of (x := xO) (by rw [G.olen]; omega)
 have o := G.fam.own xO
 rw [e] at o
 obtain ⟨_, hs, _⟩ := o
 refine ⟨ad, e, hs, fun j hj => ?_⟩
 have r := G.row i hi
 rw [lY hs]
 refine c.at ?_
 simp only [List.length_cons, List.length_nil] at hj
 match j, hj with
 | 0, _ => exact r.o0
 | 1, _ => exact r.o1
 | 2, _ => exact r.o2
 | 3, _ => exact r.o3
 | 4, _ => exact r.o4
theorem Ht.congr {g : Grp} {i : Nat} {sl' : Ix → Option Addr} {cap' : Ix → Nat} {cs' : Ix → List Value} (r : Ht g i tr sl cap cs) (ho : ∀ j, j < 5 → (cs' xO)[i * 5 + j]? = (cs xO)[i * 5 + j]?)
  (hx : ∀ x : Ix, x.1 ≠ 0 → x.2.1 = i → sl' x = sl x ∧ cap' x = cap x ∧ cs' x = cs x) : Ht g i tr sl' cap' cs' := by
 have hP := hx (xP i) (show (1 : Nat) ≠ 0 by decide) rfl
 have hR := hx (xR i) (show (2 : Nat) ≠ 0 by decide) rfl
 have hA := hx (xA i) (show (4 : Nat) ≠ 0 by decide) rfl
 have hI := fun n => hx (xI i n) (show (3 : Nat) ≠ 0 by decide) rfl
 exact ⟨(ho 0 (by omega)).trans r.o0, (ho 1 (by omega)).trans r.o1, by rw [hP.1, hP.2.1]; exact (ho 2 (by omega)).trans r.o2, by rw [hR.1, hR.2.1]; exact (ho 3 (by omega)).trans r.o3,
  by rw [hA.1, hA.2.1]; exact (ho 4 (by omega)).trans r.o4, r.trx, by rw [hP.2.2]; exact r.pl, by rw [hP.2.1]; exact r.pc, by rw [hR.2.2]; exact r.rl, by rw [hR.2.1]; exact r.rc,
  fun n hn => by rw [hR.2.2, (hI n).1, (hI n).2.1]; exact r.rg n hn, fun n hn => by rw [(hI n).2.2, (hI n).2.1]; exact r.il n hn, fun n hn => by rw [(hI n).1]; exact r.ifr n hn, by rw [hA.2.2]; exact r.al, by rw [hA.2.1]; exact r.ac⟩
structure bW (N : Nat) (h h' : aA) (sl sl' : Ix → Option Addr) : Prop where
 fr : ∀ b, b < h.size → (∀ x, ¬ InA (sl x) b) → h'[b]? = h[b]?
 size : h.size ≤ h'.size
 old : ∀ x b, InA (sl' x) b → (∃ y, InA (sl y) b) ∨ h.size ≤ b
theorem bW.trans {N : Nat} {h h1 h2 : aA} {sl sl1 sl2 : Ix → Option Addr} (a : bW N h h1 sl sl1) (b : bW N h1 h2 sl1 sl2) : bW N h h2 sl sl2 := by
 refine ⟨fun x hx hn => ?_, Nat.le_trans a.size b.size, fun x y hy => ?_⟩
 ·rw [b.fr x (by have := a.size; omega) (fun z hz => ?_), a.fr x hx hn]
  rcases a.old z x hz with ⟨y, hy⟩ | hy
  ·exact hn y hy
  ·omega
 ·rcases b.old x y hy with ⟨z, hz⟩ | hz
  ·exact a.old z y hz
  ·have := a.size; exact .inr (by omega)
theorem bW.of_fr {N : Nat} {h h' : aA} {sl : Ix → Option Addr} (f : Fr (fun _ => False) h h') : bW N h h' sl sl := ⟨fun b hb _ => f.same b hb id, f.size, fun x _ hb => .inl ⟨x, hb⟩⟩
theorem bW.of_app {N : Nat} {h h' : aA} {sl : Ix → Option Addr} {x : Ix} {a' : Option Addr} (f : Fr (InA (sl x)) h h') (hn : ∀ b, InA a' b → InA (sl x) b ∨ h.size ≤ b) : bW N h h' sl (put sl x a') :=
 ⟨fun b hb hs => f.same b hb (hs x), f.size, fun y b hb => by
  by_cases e : y = x
  ·subst e; rw [cB] at hb
   rcases hn b hb with hb | hb
   ·exact .inl ⟨_, hb⟩
   ·exact .inr hb
  ·rw [bH _ _ e] at hb; exact .inl ⟨_, hb⟩⟩
theorem bW.of_set {N : Nat} {h h' : aA} {sl : Ix → Option Addr} {x : Ix} (f : Fr (InA (sl x)) h h') : bW N h h' sl sl :=
 ⟨fun b hb hs => f.same b hb (hs x), f.size, fun y b hb => .inl ⟨y, hb⟩⟩
theorem bW.frS {N : Nat} {h h' : aA} {sl sl' : Ix → Option Addr} (t : bW N h h' sl sl') : Fr (fun b => ∃ x, InA (sl x) b) h h' :=
 ⟨t.size, fun b hb hn => t.fr b hb fun x hx => hn ⟨x, hx⟩⟩
theorem iA.lt {s : Sl Int} (o : iA h s) (hx : s.xs ≠ []) {b : Nat} (hb : InA s.p b) : b < h.size := by
 obtain ⟨ad, e, rfl⟩ := hb
 have : 0 < s.xs.length := List.length_pos_iff.2 hx
 obtain ⟨ad', e', hc⟩ := o.at this
 rw [e] at e'; cases e'
 have := IP hc
 rw [vq] at this; exact this
theorem iA.turn {N : Nat} {h' : aA} {s : Sl Int} {sl' : Ix → Option Addr} (o : iA h s) (t : bW N h h' sl sl') (ha : s.xs ≠ [] → ∀ x b, InA s.p b → ¬ InA (sl x) b) :
  iA h' s ∧ (s.xs ≠ [] → ∀ x b, InA s.p b → ¬ InA (sl' x) b) := by
 by_cases hx : s.xs = []
 ·exact ⟨⟨o.len, o.cap, fun i hi => by rw [hx] at hi; simp at hi⟩, fun h => absurd hx h⟩
 ·refine ⟨iA.fr o t.frS fun b hb ⟨x, hi⟩ => ha hx x b hb hi, fun _ x b hb hi => ?_⟩
  rcases t.old x b hi with ⟨y, hy⟩ | hy
  ·exact ha hx y b hb hy
  ·have := o.lt hx hb; omega
theorem lT.update {N : Nat} (G : lT h gs tr sl cap cs) {i : Nat} (hi : i < gs.length) (f : Grp → Grp) {h' : aA} {sl' : Ix → Option Addr} {cap' : Ix → Nat} {cs' : Ix → List Value} (F : Fam szG h' sl' cap' cs') (t : bW N h h' sl sl')
  (hrow : Ht (f gs[i]) i tr sl' cap' cs') (hother : ∀ x : Ix, x.1 ≠ 0 → x.2.1 ≠ i → sl' x = sl x ∧ cap' x = cap x ∧ cs' x = cs x)
  (hcap : cap' xO = cap xO) (hlen : (cs' xO).length = (cs xO).length) (hout : ∀ m, (m < i * 5 ∨ i * 5 + 5 ≤ m) → (cs' xO)[m]? = (cs xO)[m]?) (hkind : (f gs[i]).kind = gs[i].kind) : lT h' (gs.modify i f) tr sl' cap' cs' := by
 refine ⟨F, by rw [List.length_modify, hlen]; exact G.olen, by rw [List.length_modify, hcap]; exact G.ocap, fun j hj => ?_, fun j hj => ?_, fun j hj => ?_, fun g hg => ?_⟩
 ·rw [List.length_modify] at hj
  rw [List.getElem_modify]
  by_cases e : i = j
  ·subst e; rw [if_pos rfl]; exact hrow
  ·rw [if_neg e]
   refine (G.row j hj).congr (fun m hm => hout _ (by omega)) fun x h0 h1 => hother x h0 (by omega)
 ·rw [List.length_modify] at hj
  exact iA.turn (G.trok j hj).1 t (G.trok j hj).2
 ·rw [List.length_modify] at hj
  obtain ⟨h1, h2, h3, h4⟩ := G.free j hj
  have o := fun (x : Ix) (h0 : x.1 ≠ 0) (h1 : x.2.1 = j) => (hother x h0 (by omega)).1
  exact ⟨(o (xP j) (show (1 : Nat) ≠ 0 by decide) rfl).trans h1, (o (xR j) (show (2 : Nat) ≠ 0 by decide) rfl).trans h2, (o (xA j) (show (4 : Nat) ≠ 0 by decide) rfl).trans h3, fun n => (o (xI j n) (show (3 : Nat) ≠ 0 by decide) rfl).trans (h4 n)⟩
 ·rcases mT hg with hg | ⟨y, hy, e⟩
  ·exact G.kok g hg
  ·obtain ⟨m, hm, hge⟩ := List.mem_iff_getElem.1 hg
   rw [List.length_modify] at hm
   rw [List.getElem_modify] at hge
   split at hge
   ·rename_i e2; subst e2; rw [← hge]; show kOk .i64 h (f gs[i]).kind; rw [hkind]; exact G.kok _ (List.getElem_mem hi)
   ·rw [← hge]; exact G.kok _ (List.getElem_mem hm)
theorem gF {a b : Nat} (h : a ≠ b) (i j n m : Nat) : ((a, i, n) : Ix) ≠ (b, j, m) := fun e => h (congrArg Prod.fst e)
theorem An {n m : Nat} (h : n ≠ m) (a b i j : Nat) : ((a, i, n) : Ix) ≠ (b, j, m) := fun e => h (congrArg (fun x : Ix => x.2.2) e)
theorem Cr {l : List Value} {i j m : Nat} {v : Value} (hj : j < 5) (hm : m < i * 5 ∨ i * 5 + 5 ≤ m) : (l.set (i * 5 + j) v)[m]? = l[m]? := by
 rw [List.getElem?_set_ne (by omega)]
theorem jZ {α : Type} {f : Ix → α} {a i n : Nat} {v : α} {x : Ix} (h : x.2.1 ≠ i) : put f (a, i, n) v x = f x := bH _ _ fun e => h (by rw [e])
theorem pG {α : Type} {f : Ix → α} {v : α} {x : Ix} (h : x.1 ≠ 0) : put f xO v x = f x := bH _ _ fun e => h (by rw [e])
theorem qm {α : Type} {f : Ix → α} {a i n : Nat} {v : α} (h : a ≠ 0) : put f (a, i, n) v xO = f xO := bH _ _ fun e => h (congrArg Prod.fst e).symm
theorem lT.always {N : Nat} (G : lT h gs tr sl cap cs) {i : Nat} (hi : i < gs.length) (k : Nat) {a' : Option Addr} {cap' : Nat} {h' : aA} (hc : gs[i].always.length + 1 ≤ cap')
  (F : Fam szG h' (put sl (xA i) a') (put cap (xA i) cap') (put (put cs (xA i) (cs (xA i) ++ [.int .i64 k])) xO ((put cs (xA i) (cs (xA i) ++ [.int .i64 k]) xO).set (i * 5 + 4) (.slice a' (gs[i].always.length + 1) cap'))))
  (t : bW N h h' sl (put sl (xA i) a')) : lT h' (gs.modify i fun g => { g with always := g.always ++ [(k : Int)] }) tr (put sl (xA i) a') (put cap (xA i) cap') (put (put cs (xA i) (cs (xA i) ++ [.int .i64 k])) xO ((put cs (xA i) (cs (xA i) ++ [.int .i64 k]) xO).set (i * 5 + 4) (.slice a' (gs[i].always.length + 1) cap'))) := by
 have r := G.row i hi
 have hlen := G.olen
 have eo : put cs (xA i) (cs (xA i) ++ [.int .i64 k]) xO = cs xO := qm (by decide)
 rw [eo] at F ⊢
 refine G.update hi _ F t ?_ (fun x h0 h1 => ⟨jZ h1, jZ h1, by rw [pG h0, jZ h1]⟩) (qm (by decide)) (by rw [cB, List.length_set]) (fun m hm => by rw [cB, Cr (by omega) hm]) rfl
 have nP : (xP i) ≠ xA i := gF (by decide) _ _ _ _
 have nR : (xR i) ≠ xA i := gF (by decide) _ _ _ _
 have nI : ∀ n, (xI i n) ≠ xA i := fun n => gF (by decide) _ _ _ _
 have zP : (xP i) ≠ xO := gF (by decide) _ _ _ _
 have zR : (xR i) ≠ xO := gF (by decide) _ _ _ _
 have zA : (xA i) ≠ xO := gF (by decide) _ _ _ _
 have zI : ∀ n, (xI i n) ≠ xO := fun n => gF (by decide) _ _ _ _
 constructor <;> (try simp only [cB, bH _ _ nP, bH _ _ nR, bH _ _ (nI _), bH _ _ zP, bH _ _ zR, bH _ _ zA, bH _ _ (zI _)])
 ·rw [List.getElem?_set_ne (by omega)]; exact r.o0
 ·rw [List.getElem?_set_ne (by omega)]; exact r.o1
 ·rw [List.getElem?_set_ne (by omega)]; exact r.o2
 ·rw [List.getElem?_set_ne (by omega)]; exact r.o3
 ·rw [List.getElem?_set_self (by omega)]; simp
 ·exact r.trx
 ·exact r.pl
 ·exact r.pc
 ·exact r.rl
 ·exact r.rc
 ·exact r.rg
 ·exact r.il
 ·exact r.ifr
 ·rw [r.al]; simp [uU]
 ·simpa using hc
theorem lT.inner {N : Nat} (G : lT h gs tr sl cap cs) {i : Nat} (hi : i < gs.length) {n : Nat} (hn : n < gs[i].rules.length) (k : Nat) {a' : Option Addr} {cap' : Nat} {h' : aA} (hc : gs[i].rules[n].length + 1 ≤ cap')
  (F : Fam szG h' (put sl (xI i n) a') (put cap (xI i n) cap') (put (put cs (xI i n) (cs (xI i n) ++ [.int .i64 k])) (xR i) ((put cs (xI i n) (cs (xI i n) ++ [.int .i64 k]) (xR i)).set n (.slice a' (gs[i].rules[n].length + 1) cap'))))
  (t : bW N h h' sl (put sl (xI i n) a')) : lT h' (gs.modify i fun g => { g with rules := g.rules.modify n (· ++ [(k : Int)]) }) tr (put sl (xI i n) a') (put cap (xI i n) cap')
   (put (put cs (xI i n) (cs (xI i n) ++ [.int .i64 k])) (xR i) ((put cs (xI i n) (cs (xI i n) ++ [.int .i64 k]) (xR i)).set n (.slice a' (gs[i].rules[n].length + 1) cap'))) := by
 have r := G.row i hi
 have eo : put cs (xI i n) (cs (xI i n) ++ [.int .i64 k]) (xR i) = cs (xR i) := bH _ _ (gF (by decide) _ _ _ _)
 rw [eo] at F ⊢
 refine G.update hi _ F t ?_ (fun x h0 h1 => ⟨jZ h1, jZ h1, by rw [jZ h1, jZ h1]⟩) (qm (by decide)) (by rw [qm (by decide), qm (by decide)]) (fun m hm => by rw [qm (by decide), qm (by decide)]) rfl
 have nP : (xP i) ≠ xI i n := gF (by decide) _ _ _ _
 have nR : (xR i) ≠ xI i n := gF (by decide) _ _ _ _
 have nA : (xA i) ≠ xI i n := gF (by decide) _ _ _ _
 have nO : xO ≠ xI i n := gF (by decide) _ _ _ _
 have zP : (xP i) ≠ xR i := gF (by decide) _ _ _ _
 have zA : (xA i) ≠ xR i := gF (by decide) _ _ _ _
 have zI : ∀ n, (xI i n) ≠ xR i := fun n => gF (by decide) _ _ _ _
 have zO : xO ≠ xR i := gF (by decide) _ _ _ _
 have rl := r.rl
 constructor <;> (try simp only [cB, bH _ _ nP, bH _ _ nR, bH _ _ nA, bH _ _ nO, bH _ _ zP, bH _ _ zA, bH _ _ (zI _), bH _ _ zO, List.length_modify, List.length_set])
 ·exact r.o0
 ·exact r.o1
 ·exact r.o2
 ·exact r.o3
 ·exact r.o4
 ·exact r.trx
 ·exact r.pl
 ·exact r.pc
 ·exact r.rl
 ·exact r.rc
 ·intro m hm
  rw [List.getElem_modify]
  by_cases e : n = m
  ·subst e; rw [if_pos rfl, cB, cB, List.getElem?_set_self (by omega)]; simp
  ·rw [if_neg e, List.getElem?_set_ne e, bH _ _ (An (fun x => e x.symm) _ _ _ _), bH _ _ (An (fun x => e x.symm) _ _ _ _)]; exact r.rg m hm
 ·intro m hm
  rw [List.getElem_modify]
  by_cases e : n = m
  ·subst e; rw [if_pos rfl, cB, cB, (r.il n hn).1]; exact ⟨by simp [uU], by simpa using hc⟩
  ·rw [if_neg e, bH _ _ (An (fun x => e x.symm) _ _ _ _), bH _ _ (An (fun x => e x.symm) _ _ _ _)]; exact r.il m hm
 ·intro m hm
  rw [bH _ _ (An (by omega) _ _ _ _)]; exact r.ifr m hm
 ·exact r.al
 ·exact r.ac
theorem lT.pattern {N : Nat} (G : lT h gs tr sl cap cs) {i : Nat} (hi : i < gs.length) (p : List UInt8 × Bool) {a1 a2 : Option Addr} {c1 c2 : Nat} {h' : aA} (hc1 : gs[i].pats.length + 1 ≤ c1) (hc2 : gs[i].rules.length + 1 ≤ c2)
  {cs' : Ix → List Value} (e0 : cs' xO = ((cs xO).set (i * 5 + 2) (.slice a1 (gs[i].pats.length + 1) c1)).set (i * 5 + 3) (.slice a2 (gs[i].rules.length + 1) c2))
  (e1 : cs' (xP i) = cs (xP i) ++ [.string (bs p.1), .bool p.2]) (e2 : cs' (xR i) = cs (xR i) ++ [.slice none 0 0]) (e3 : ∀ x : Ix, x ≠ xO → x ≠ xP i → x ≠ xR i → cs' x = cs x)
  (F : Fam szG h' (put (put sl (xP i) a1) (xR i) a2) (put (put cap (xP i) c1) (xR i) c2) cs') (t : bW N h h' sl (put (put sl (xP i) a1) (xR i) a2)) :
  lT h' (gs.modify i fun g => { g with pats := g.pats ++ [p], rules := g.rules ++ [[]] }) tr (put (put sl (xP i) a1) (xR i) a2) (put (put cap (xP i) c1) (xR i) c2) cs' := by
 have r := G.row i hi
 have hlen := G.olen
 refine G.update hi _ F t ?_ (fun x h0 h1 => ⟨by rw [jZ h1, jZ h1], by rw [jZ h1, jZ h1], e3 x (fun e => h0 (by rw [e])) (fun e => h1 (by rw [e])) (fun e => h1 (by rw [e]))⟩) (by rw [qm (by decide), qm (by decide)]) (by rw [e0, List.length_set, List.length_set])
  (fun m hm => by rw [e0, Cr (by omega) hm, Cr (by omega) hm]) rfl
 have nPR : (xP i) ≠ xR i := gF (by decide) _ _ _ _
 have nAP : (xA i) ≠ xP i := gF (by decide) _ _ _ _
 have nAR : (xA i) ≠ xR i := gF (by decide) _ _ _ _
 have nIP : ∀ n, (xI i n) ≠ xP i := fun n => gF (by decide) _ _ _ _
 have nIR : ∀ n, (xI i n) ≠ xR i := fun n => gF (by decide) _ _ _ _
 have eA := e3 (xA i) (gF (by decide) _ _ _ _) nAP nAR
 have eI := fun n => e3 (xI i n) (gF (by decide) _ _ _ _) (nIP n) (nIR n)
 have rl := r.rl
 have hfree := r.ifr gs[i].rules.length (Nat.le_refl _)
 have hnone := G.fam.none hfree
 constructor <;> (try simp only [e0, e1, e2, eA, eI, cB, bH _ _ nPR, bH _ _ nAP, bH _ _ nAR, bH _ _ (nIP _), bH _ _ (nIR _), List.length_append, List.length_cons, List.length_nil])
 ·rw [List.getElem?_set_ne (by omega), List.getElem?_set_ne (by omega)]; exact r.o0
 ·rw [List.getElem?_set_ne (by omega), List.getElem?_set_ne (by omega)]; exact r.o1
 ·rw [List.getElem?_set_ne (by omega), List.getElem?_set_self (by omega)]
 ·rw [List.getElem?_set_self (by rw [List.length_set]; omega)]
 ·rw [List.getElem?_set_ne (by omega), List.getElem?_set_ne (by omega)]; exact r.o4
 ·exact r.trx
 ·rw [r.pl]; simp
 ·exact hc1
 ·omega
 ·exact hc2
 ·intro n hn
  by_cases e : n < gs[i].rules.length
  ·rw [List.getElem?_append_left (by omega), List.getElem_append_left e]; exact r.rg n e
  ·have : n = gs[i].rules.length := by omega
   subst this
   rw [List.getElem?_append_right (by omega), List.getElem_append_right (Nat.le_refl _), hfree, hnone.2]
   simp [rl]
 ·intro n hn
  by_cases e : n < gs[i].rules.length
  ·rw [List.getElem_append_left e]; exact r.il n e
  ·have : n = gs[i].rules.length := by omega
   subst this
   rw [List.getElem_append_right (Nat.le_refl _), hnone.1]
   simp
 ·intro n hn; exact r.ifr n (by omega)
 ·exact r.al
 ·exact r.ac
theorem lT.push {N : Nat} (G : lT h gs tr sl cap cs) (kind : Int) (hkind : kOk .i64 h kind) (T : Sl Int) {a' : Option Addr} {c' : Nat} {h' : aA} (hc : gs.length + 1 ≤ c')
  (F : Fam szG h' (put sl xO a') (put cap xO c') (put cs xO (cs xO ++ [.int .i64 kind, .slice T.p T.xs.length T.cap, .slice none 0 0, .slice none 0 0, .slice none 0 0]))) (t : bW N h h' sl (put sl xO a'))
  (hT : iA h' T) (hTa : T.xs ≠ [] → ∀ x b, InA T.p b → ¬ InA (put sl xO a' x) b) :
  lT h' (gs ++ [⟨kind, T.xs, [], [], []⟩]) (put tr gs.length T) (put sl xO a') (put cap xO c') (put cs xO (cs xO ++ [.int .i64 kind, .slice T.p T.xs.length T.cap, .slice none 0 0, .slice none 0 0, .slice none 0 0])) := by
 have hlen := G.olen
 refine ⟨F, by rw [cB, List.length_append, hlen, List.length_append]; simp; omega, by rw [cB, List.length_append]; simpa using hc, fun j hj => ?_, fun j hj => ?_, fun j hj => ?_, fun g hg => ?_⟩
 ·rw [List.length_append, List.length_singleton] at hj
  by_cases e : j < gs.length
  ·rw [List.getElem_append_left e]
   have r := (G.row j e).congr (sl' := put sl xO a') (cap' := put cap xO c') (cs' := put cs xO (cs xO ++ [.int .i64 kind, .slice T.p T.xs.length T.cap, .slice none 0 0, .slice none 0 0, .slice none 0 0]))
    (fun m hm => by rw [cB, List.getElem?_append_left (by omega)]) fun x h0 h1 => ⟨pG h0, pG h0, pG h0⟩
   have e2 : put tr gs.length T j = tr j := bH _ _ (by omega)
   exact ⟨r.o0, by rw [e2]; exact r.o1, r.o2, r.o3, r.o4, by rw [e2]; exact r.trx, r.pl, r.pc, r.rl, r.rc, r.rg, r.il, r.ifr, r.al, r.ac⟩
  ·have e : j = gs.length := by omega
   subst e
   rw [List.getElem_append_right (Nat.le_refl _)]
   simp only [Nat.sub_self, List.getElem_cons_zero]
   obtain ⟨h1, h2, h3, h4⟩ := G.free gs.length (Nat.le_refl _)
   have n1 := G.fam.none h1
   have n2 := G.fam.none h2
   have n3 := G.fam.none h3
   have zP : (xP gs.length) ≠ xO := gF (by decide) _ _ _ _
   have zR : (xR gs.length) ≠ xO := gF (by decide) _ _ _ _
   have zA : (xA gs.length) ≠ xO := gF (by decide) _ _ _ _
   have zI : ∀ n, (xI gs.length n) ≠ xO := fun n => gF (by decide) _ _ _ _
   constructor <;> (try simp only [cB, bH _ _ zP, bH _ _ zR, bH _ _ zA, bH _ _ (zI _), h1, h2, h3, h4, n1, n2, n3, List.length_nil])
   ·rw [List.getElem?_append_right (by omega), hlen]; simp
   ·rw [List.getElem?_append_right (by omega), hlen, show gs.length * 5 + 1 - gs.length * 5 = 1 by omega]; rfl
   ·rw [List.getElem?_append_right (by omega), hlen, show gs.length * 5 + 2 - gs.length * 5 = 2 by omega]; rfl
   ·rw [List.getElem?_append_right (by omega), hlen, show gs.length * 5 + 3 - gs.length * 5 = 3 by omega]; rfl
   ·rw [List.getElem?_append_right (by omega), hlen, show gs.length * 5 + 4 - gs.length * 5 = 4 by omega]; rfl
   ·rfl
   ·exact Nat.le_refl _
   ·exact Nat.le_refl _
   ·intro n hn; exact absurd hn (Nat.not_lt_zero _)
   ·intro n hn; exact absurd hn (Nat.not_lt_zero _)
   ·intro n _; trivial
   ·rfl
   ·exact Nat.le_refl _
 ·rw [List.length_append, List.length_singleton] at hj
  by_cases e : j < gs.length
  ·have e2 : put tr gs.length T j = tr j := bH _ _ (by omega)
   rw [e2]
   exact iA.turn (G.trok j e).1 t (G.trok j e).2
  ·have e : j = gs.length := by omega
   rw [e, cB]
   exact ⟨hT, hTa⟩
 ·rw [List.length_append, List.length_singleton] at hj
  obtain ⟨h1, h2, h3, h4⟩ := G.free j (by omega)
  exact ⟨(pG (show (1 : Nat) ≠ 0 by decide)).trans h1, (pG (show (2 : Nat) ≠ 0 by decide)).trans h2, (pG (show (4 : Nat) ≠ 0 by decide)).trans h3, fun n => (pG (show (3 : Nat) ≠ 0 by decide)).trans (h4 n)⟩
 ·rcases List.mem_append.1 hg with hg | hg
  ·exact G.kok g hg
  ·rw [List.mem_singleton.1 hg]; exact hkind
end
end Go.Proofs.YtjmfpeiidlpngaaGreatDoor.Fp
