/-
  Printed by wip/tool/gen2.py: verification conditions, and the proof that each suffices.
-/
import Derived.Test.YtjelnknmjhceiaaG1
namespace Go.Proofs.Ytjelnknmjhceiaa
set_option linter.unusedSimpArgs false
set_option linter.unusedVariables false
set_option maxRecDepth 20000
open Go IntKind
variable [Gh]
/-! ### intrusion/intrusionref43.numbers -/
def ref43_numbers_b2 (r_1 : Addr) (Q : QT) (h : Heap) : Prop :=
 ldL h (Addr.add r_1 4) fun t28a t28n t28c => CallT Try.prog fn_ref43_ports #[.slice t28a t28n t28c] h fun v h2 => ∃ t29 : Bool, v = .bool t29 ∧ if t29 = true then (ldL h2 (Addr.add r_1 5) fun t32a t32n t32c => CallT Try.prog fn_ref43_ports #[.slice t32a t32n t32c] h2 fun v h3 => ∃ t33 : Bool, v = .bool t33 ∧ if t33 = true then (ldI h3 (Addr.add r_1 17) .i64 fun t37_0 => ldI h3 (Addr.add r_1 18) .i64 fun t37_1 => ldI h3 (Addr.add r_1 19) .i64 fun t37_2 => ldI h3 (Addr.add r_1 20) .i64 fun t37_3 => CallT Try.prog fn_ref43_Threshold #[.agg #[.int .i64 t37_0, .int .i64 t37_1, .int .i64 t37_2, .int .i64 t37_3]] h3 fun v h4 => ∃ t38 : Bool, v = .bool t38 ∧ Q (.bool t38) h4) else (Q (.bool false) h3)) else (Q (.bool false) h2)
def ref43_numbers_l1 (r_1 : Addr) (Q : QT) (i_3 : Int) (h : Heap) (Kn1 : Int → Heap → Prop) : Prop :=
 ldL h (Addr.add r_1 16) fun t6a t6n t6c => if (decide (i_3 < ((t6n : Nat) : Int))) = true then (ldL h (Addr.add r_1 16) fun t12a t12n t12c => idxA i_3 t12n (nn t12a fun t14 => ldI h (Addr.add t14 ((i_3).toNat * 2)) .i64 fun t16 => if (decide (t16 < 1)) = true then (Q (.bool false) h) else (ldL h (Addr.add r_1 16) fun t20a t20n t20c => idxA i_3 t20n (nn t20a fun t22 => ldI h (Addr.add t22 ((i_3).toNat * 2)) .i64 fun t24 => if (decide (t24 > 4)) = true then (Q (.bool false) h) else (Kn1 (wrap .i64 (i_3 + 1)) h))))) else (ref43_numbers_b2 r_1 Q h)
def ref43_numbers_v (r_0_0 r_0_1 : Int) (r_0_2a : Option Addr) (r_0_2n r_0_2c : Nat) (r_0_3a : Option Addr) (r_0_3n r_0_3c : Nat) (r_0_4a : Option Addr) (r_0_4n r_0_4c : Nat) (r_0_5a : Option Addr) (r_0_5n r_0_5c : Nat) (r_0_6 : Bool) (r_0_7 r_0_8 r_0_9 : Int) (r_0_10 : ByteArray) (r_0_11 r_0_12 : Int) (r_0_13a : Option Addr) (r_0_13n r_0_13c : Nat) (r_0_14a : Option Addr) (r_0_14n r_0_14c : Nat) (r_0_15a : Option Addr) (r_0_15n r_0_15c : Nat) (r_0_16a : Option Addr) (r_0_16n r_0_16c : Nat) (r_0_17 r_0_18 r_0_19 r_0_20 : Int) (Q : QT) (h : Heap) : Prop :=
 alV h (.cells #[.int .i64 r_0_0, .int .i64 r_0_1, .slice r_0_2a r_0_2n r_0_2c, .slice r_0_3a r_0_3n r_0_3c, .slice r_0_4a r_0_4n r_0_4c, .slice r_0_5a r_0_5n r_0_5c, .bool r_0_6, .int .i64 r_0_7, .int .i64 r_0_8, .int .i64 r_0_9, .string r_0_10, .int .i64 r_0_11, .int .i64 r_0_12, .slice r_0_13a r_0_13n r_0_13c, .slice r_0_14a r_0_14n r_0_14c, .slice r_0_15a r_0_15n r_0_15c, .slice r_0_16a r_0_16n r_0_16c, .int .i64 r_0_17, .int .i64 r_0_18, .int .i64 r_0_19, .int .i64 r_0_20] T_api_Rule) fun t1 h1 => LoopV (fun (s : Int) h Kn => ref43_numbers_l1 t1 Q s h Kn) 0 h1
set_option maxRecDepth 100000 in
theorem ref43_numbers_s (r_0_0 r_0_1 : Int) (r_0_2a : Option Addr) (r_0_2n r_0_2c : Nat) (r_0_3a : Option Addr) (r_0_3n r_0_3c : Nat) (r_0_4a : Option Addr) (r_0_4n r_0_4c : Nat) (r_0_5a : Option Addr) (r_0_5n r_0_5c : Nat) (r_0_6 : Bool) (r_0_7 r_0_8 r_0_9 : Int) (r_0_10 : ByteArray) (r_0_11 r_0_12 : Int) (r_0_13a : Option Addr) (r_0_13n r_0_13c : Nat) (r_0_14a : Option Addr) (r_0_14n r_0_14c : Nat) (r_0_15a : Option Addr) (r_0_15n r_0_15c : Nat) (r_0_16a : Option Addr) (r_0_16n r_0_16c : Nat) (r_0_17 r_0_18 r_0_19 r_0_20 : Int) {Q : QT} {h : Heap} (hk : ref43_numbers_v r_0_0 r_0_1 r_0_2a r_0_2n r_0_2c r_0_3a r_0_3n r_0_3c r_0_4a r_0_4n r_0_4c r_0_5a r_0_5n r_0_5c r_0_6 r_0_7 r_0_8 r_0_9 r_0_10 r_0_11 r_0_12 r_0_13a r_0_13n r_0_13c r_0_14a r_0_14n r_0_14c r_0_15a r_0_15n r_0_15c r_0_16a r_0_16n r_0_16c r_0_17 r_0_18 r_0_19 r_0_20 Q h) : CallT Try.prog fn_ref43_numbers #[.agg #[.int .i64 r_0_0, .int .i64 r_0_1, .slice r_0_2a r_0_2n r_0_2c, .slice r_0_3a r_0_3n r_0_3c, .slice r_0_4a r_0_4n r_0_4c, .slice r_0_5a r_0_5n r_0_5c, .bool r_0_6, .int .i64 r_0_7, .int .i64 r_0_8, .int .i64 r_0_9, .string r_0_10, .int .i64 r_0_11, .int .i64 r_0_12, .slice r_0_13a r_0_13n r_0_13c, .slice r_0_14a r_0_14n r_0_14c, .slice r_0_15a r_0_15n r_0_15c, .slice r_0_16a r_0_16n r_0_16c, .int .i64 r_0_17, .int .i64 r_0_18, .int .i64 r_0_19, .int .i64 r_0_20]] h Q :=
 callU follows Try.func47 (Try.call47 _) rfl rfl [(14, fun e h => dA (e 1) fun r_1 => ref43_numbers_b2 r_1 Q h)] [(6, fun e h => dA (e 1) fun r_1 => dI .i64 (e 3) fun i_3 => LoopV (fun (s : Int) h Kn => ref43_numbers_l1 r_1 Q s h Kn) i_3 h)]
 ⟨fun e h _ hk => by
 have F := Ag.nil (e := e)
 have ⟨r_1, F, hk⟩ := eA F hk
 exact cutU F (by as_aux_lemma => kernel_rfl) hk, trivial⟩
 ⟨⟨by kernel_rfl, fun e h he hk => by
 have F := Ag.nil (e := e)
 have ⟨r_1, F, hk⟩ := eA F hk
 have ⟨i_3, F, hk⟩ := eI F hk
 exact loopU (s0 := i_3) follows (fun _ h => by cases h) he F (fun s => [(3, .int .i64 s)]) (by kernel_rfl) (F.take 1) hk (fun Kn1 e h => dI .i64 (e 3) fun i_3 => Kn1 i_3 h) (fun Kn1 e h hk => by
  have F := Ag.nil (e := e)
  have ⟨i_3, F, hk⟩ := eI F hk
  exact ⟨i_3, F, hk⟩)
  (fun Kn1 => []) (fun Kn1 => [])
  (fun Kn1 => trivial)
  (fun Kn1 => trivial) (fun e s h Kn1 => by as_aux_lemma => kernel_rfl)⟩, trivial⟩ (by as_aux_lemma => kernel_rfl) hk
/-! ### intrusion/intrusionref43.prefixes -/
def ref43_prefixes_l1 (l_0a : Option Addr) (l_0n l_0c : Nat) (Q : QT) (i_3 : Int) (h : Heap) (Kn1 : Int → Heap → Prop) : Prop :=
 if (decide (i_3 < ((l_0n : Nat) : Int))) = true then (idxA i_3 l_0n (nn l_0a fun t12 => ldS h (Addr.add (Addr.add t12 ((i_3).toNat * 6)) 1) fun t14 => if (t14.toList == (⟨#[]⟩ : ByteArray).toList) = true then (idxA i_3 l_0n (nn l_0a fun t19 => ldB h (Addr.add (Addr.add t19 ((i_3).toNat * 6)) 2) fun t21_0 => ldI h (Addr.add (Addr.add t19 ((i_3).toNat * 6)) 3) .u64 fun t21_1 => ldI h (Addr.add (Addr.add t19 ((i_3).toNat * 6)) 4) .u64 fun t21_2 => ldI h (Addr.add (Addr.add t19 ((i_3).toNat * 6)) 5) .i64 fun t21_3 => CallT Try.prog fn_ref06_ValidPrefix #[.agg #[.bool t21_0, .int .u64 t21_1, .int .u64 t21_2, .int .i64 t21_3]] h fun v h1 => ∃ t22 : Bool, v = .bool t22 ∧ if (!t22) = true then (Q (.bool false) h1) else (Kn1 (wrap .i64 (i_3 + 1)) h1))) else (Kn1 (wrap .i64 (i_3 + 1)) h))) else (Q (.bool true) h)
def ref43_prefixes_v (l_0a : Option Addr) (l_0n l_0c : Nat) (Q : QT) (h : Heap) : Prop :=
 LoopV (fun (s : Int) h Kn => ref43_prefixes_l1 l_0a l_0n l_0c Q s h Kn) 0 h
set_option maxRecDepth 100000 in
theorem ref43_prefixes_s (l_0a : Option Addr) (l_0n l_0c : Nat) {Q : QT} {h : Heap} (hk : ref43_prefixes_v l_0a l_0n l_0c Q h) : CallT Try.prog fn_ref43_prefixes #[.slice l_0a l_0n l_0c] h Q :=
 callU follows Try.func48 (Try.call48 _) rfl rfl [] [(6, fun e h => dL (e 0) fun l_0a l_0n l_0c => dI .i64 (e 3) fun i_3 => LoopV (fun (s : Int) h Kn => ref43_prefixes_l1 l_0a l_0n l_0c Q s h Kn) i_3 h)]
 trivial
 ⟨⟨by kernel_rfl, fun e h he hk => by
 have F := Ag.nil (e := e)
 have ⟨l_0a, l_0n, l_0c, F, hk⟩ := eL F hk
 have ⟨i_3, F, hk⟩ := eI F hk
 exact loopU (s0 := i_3) follows (fun _ h => by cases h) he F (fun s => [(3, .int .i64 s)]) (by kernel_rfl) (F.take 1) hk (fun Kn1 e h => dI .i64 (e 3) fun i_3 => Kn1 i_3 h) (fun Kn1 e h hk => by
  have F := Ag.nil (e := e)
  have ⟨i_3, F, hk⟩ := eI F hk
  exact ⟨i_3, F, hk⟩)
  (fun Kn1 => []) (fun Kn1 => [])
  (fun Kn1 => trivial)
  (fun Kn1 => trivial) (fun e s h Kn1 => by as_aux_lemma => kernel_rfl)⟩, trivial⟩ (by as_aux_lemma => kernel_rfl) hk
/-! ### intrusion/intrusionref43.fast -/
def ref43_fast_l1 (l_0a : Option Addr) (l_0n l_0c : Nat) (Q : QT) (n_3 i_4 : Int) (h : Heap) (Kn1 : Int × Int → Heap → Prop) : Prop :=
 if (decide (i_4 < ((l_0n : Nat) : Int))) = true then (idxA i_4 l_0n (nn l_0a fun t13 => ldB h (Addr.add (Addr.add t13 ((i_4).toNat * 7)) 6) fun t15 => if t15 = true then (idxA i_4 l_0n (nn l_0a fun t20 => ldB h (Addr.add (Addr.add t20 ((i_4).toNat * 7)) 2) fun t22 => if t22 = true then (Q (.bool false) h) else (Kn1 (wrap .i64 (n_3 + 1), wrap .i64 (i_4 + 1)) h))) else (Kn1 (n_3, wrap .i64 (i_4 + 1)) h))) else (Q (.bool (decide (n_3 ≤ 1))) h)
def ref43_fast_v (l_0a : Option Addr) (l_0n l_0c : Nat) (Q : QT) (h : Heap) : Prop :=
 LoopV (fun (s : Int × Int) h Kn => ref43_fast_l1 l_0a l_0n l_0c Q s.1 s.2 h Kn) (0, 0) h
set_option maxRecDepth 100000 in
theorem ref43_fast_s (l_0a : Option Addr) (l_0n l_0c : Nat) {Q : QT} {h : Heap} (hk : ref43_fast_v l_0a l_0n l_0c Q h) : CallT Try.prog fn_ref43_fast #[.slice l_0a l_0n l_0c] h Q :=
 callU follows Try.func49 (Try.call49 _) rfl rfl [] [(8, fun e h => dL (e 0) fun l_0a l_0n l_0c => dI .i64 (e 3) fun n_3 => dI .i64 (e 4) fun i_4 => LoopV (fun (s : Int × Int) h Kn => ref43_fast_l1 l_0a l_0n l_0c Q s.1 s.2 h Kn) (n_3, i_4) h)]
 trivial
 ⟨⟨by kernel_rfl, fun e h he hk => by
 have F := Ag.nil (e := e)
 have ⟨l_0a, l_0n, l_0c, F, hk⟩ := eL F hk
 have ⟨n_3, F, hk⟩ := eI F hk
 have ⟨i_4, F, hk⟩ := eI F hk
 exact loopU (s0 := (n_3, i_4)) follows (fun _ h => by cases h) he F (fun s => [(4, .int .i64 s.2), (3, .int .i64 s.1)]) (by kernel_rfl) (F.take 2) hk (fun Kn1 e h => dI .i64 (e 3) fun n_3 => dI .i64 (e 4) fun i_4 => Kn1 (n_3, i_4) h) (fun Kn1 e h hk => by
  have F := Ag.nil (e := e)
  have ⟨n_3, F, hk⟩ := eI F hk
  have ⟨i_4, F, hk⟩ := eI F hk
  exact ⟨(n_3, i_4), F, hk⟩)
  (fun Kn1 => []) (fun Kn1 => [])
  (fun Kn1 => trivial)
  (fun Kn1 => trivial) (fun e s h Kn1 => by as_aux_lemma => kernel_rfl)⟩, trivial⟩ (by as_aux_lemma => kernel_rfl) hk
/-! ### (*intrusion/content.search).from -/
def content_search_from_l3 (cursor_2 : Int) (s_3 : Addr) (t26a : Option Addr) (t26n t26c : Nat) (t27 : Int) (Q : QT) (t28 : Int) (h : Heap) (Kn3 : Int → Heap → Prop) : Prop :=
 if (decide (t28 < t27)) = true then (idxA t28 t26n (nn t26a fun t30 => ldI h (Addr.add t30 ((t28).toNat * 7)) .i64 fun t31_0 => ldI h (Addr.add (Addr.add t30 ((t28).toNat * 7)) 1) .i64 fun t31_1 => ldI h (Addr.add (Addr.add t30 ((t28).toNat * 7)) 2) .i64 fun t31_2 => ldI h (Addr.add (Addr.add t30 ((t28).toNat * 7)) 3) .i64 fun t31_3 => ldB h (Addr.add (Addr.add t30 ((t28).toNat * 7)) 4) fun t31_4 => ldB h (Addr.add (Addr.add t30 ((t28).toNat * 7)) 5) fun t31_5 => ldB h (Addr.add (Addr.add t30 ((t28).toNat * 7)) 6) fun t31_6 => alV h (.cells #[.int .i64 0, .int .i64 0, .int .i64 0, .int .i64 0, .bool false, .bool false, .bool false] T_api_Test) fun t9 h3 => stN h3 t9 [.int .i64 t31_0, .int .i64 t31_1, .int .i64 t31_2, .int .i64 t31_3, .bool t31_4, .bool t31_5, .bool t31_6] 0 fun h4 => ldI h4 t9 .i64 fun t32_0 => ldI h4 (Addr.add t9 1) .i64 fun t32_1 => ldI h4 (Addr.add t9 2) .i64 fun t32_2 => ldI h4 (Addr.add t9 3) .i64 fun t32_3 => ldB h4 (Addr.add t9 4) fun t32_4 => ldB h4 (Addr.add t9 5) fun t32_5 => ldB h4 (Addr.add t9 6) fun t32_6 => ldP h4 s_3 fun t33 => nn t33 fun t34 => ldS h4 (Addr.add t34 2) fun t36 => CallT Try.prog fn_content_Test #[.agg #[.int .i64 t32_0, .int .i64 t32_1, .int .i64 t32_2, .int .i64 t32_3, .bool t32_4, .bool t32_5, .bool t32_6], .string t36, .int .i64 cursor_2] h4 fun v h5 => ∃ t38 : Bool, v = .bool t38 ∧ if (!t38) = true then (Q (.tuple #[.int .i64 0, .bool false]) h5) else (Kn3 (wrap .i64 (t28 + 1)) h5))) else (Q (.tuple #[.int .i64 cursor_2, .bool true]) h)
def content_search_from_l1 (cursor_2 : Int) (s_3 i_4 : Addr) (Q : QT) (c_10 at_11 : Addr) (last_12 : Int) (step_13_0 step_13_1 step_13_2 step_13_3 : Addr) (h : Heap) (Kn1 : Addr × Addr × Int × Addr × Addr × Addr × Addr → Heap → Prop) : Prop :=
 ldI h at_11 .i64 fun t61 => if (decide (t61 > last_12)) = true then (ldB h (Addr.add c_10 2) fun t65 => if t65 = true then (ldP h s_3 fun t66 => ldI h i_4 .i64 fun t67 => CallT Try.prog fn_content_search_from #[.pointer t66, .int .i64 (wrap .i64 (t67 + 1)), .int .i64 cursor_2] h fun v h11 => ∃ t70_0 : Int, ∃ t70_1 : Bool, v = .tuple #[.int .i64 t70_0, .bool t70_1] ∧ Q (.tuple #[.int .i64 t70_0, .bool t70_1]) h11) else (Q (.tuple #[.int .i64 0, .bool false]) h)) else (CallT Try.prog fn_content_search_from_1 #[.pointer (some step_13_0), .pointer (some step_13_1), .pointer (some step_13_2), .pointer (some step_13_3)] h fun v h12 => ∃ t75_0 : Int, ∃ t75_1 : Bool, v = .tuple #[.int .i64 t75_0, .bool t75_1] ∧ ldP h12 s_3 fun t79 => nn t79 fun t80 => ldB h12 (Addr.add t80 5) fun t82 => if t82 = true then (Q (.tuple #[.int .i64 0, .bool false]) h12) else (ldB h12 (Addr.add c_10 2) fun t85 => if t85 = true then (if t75_1 = true then (Q (.tuple #[.int .i64 0, .bool false]) h12) else (if t75_1 = true then (Q (.tuple #[.int .i64 t75_0, .bool true]) h12) else (ldI h12 at_11 .i64 fun t93 => st1 h12 at_11 (.int .i64 (wrap .i64 (t93 + 1))) fun h13 => Kn1 (c_10, at_11, last_12, step_13_0, step_13_1, step_13_2, step_13_3) h13))) else (if t75_1 = true then (Q (.tuple #[.int .i64 t75_0, .bool true]) h12) else (ldI h12 at_11 .i64 fun t93 => st1 h12 at_11 (.int .i64 (wrap .i64 (t93 + 1))) fun h14 => Kn1 (c_10, at_11, last_12, step_13_0, step_13_1, step_13_2, step_13_3) h14))))
def content_search_from_b4 (cursor_2 : Int) (s_3 i_4 : Addr) (Q : QT) (h : Heap) : Prop :=
 ldP h s_3 fun t42 => nn t42 fun t43 => ldL h t43 fun t45a t45n t45c => ldI h i_4 .i64 fun t46 => idxA t46 t45n (nn t45a fun t47 => ldS h (Addr.add t47 ((t46).toNat * 7)) fun t48_0 => ldB h (Addr.add (Addr.add t47 ((t46).toNat * 7)) 1) fun t48_1 => ldB h (Addr.add (Addr.add t47 ((t46).toNat * 7)) 2) fun t48_2 => ldB h (Addr.add (Addr.add t47 ((t46).toNat * 7)) 3) fun t48_3 => ldI h (Addr.add (Addr.add t47 ((t46).toNat * 7)) 4) .i64 fun t48_4 => ldI h (Addr.add (Addr.add t47 ((t46).toNat * 7)) 5) .i64 fun t48_5 => ldB h (Addr.add (Addr.add t47 ((t46).toNat * 7)) 6) fun t48_6 => alV h (.cells #[.string (⟨#[]⟩ : ByteArray), .bool false, .bool false, .bool false, .int .i64 0, .int .i64 0, .bool false] T_api_Content) fun t10 h6 => (ldP h6 s_3 fun t942 => (.pointer t942 : Value) = .pointer t42) ∧ (ldL h6 t43 fun t945a t945n t945c => (.slice t945a t945n t945c : Value) = .slice t45a t45n t45c) ∧ (ldI h6 i_4 .i64 fun t946 => (.int .i64 t946 : Value) = .int .i64 t46) ∧ (ldS h6 (Addr.add t47 ((t46).toNat * 7)) fun t948_0 => ldB h6 (Addr.add (Addr.add t47 ((t46).toNat * 7)) 1) fun t948_1 => ldB h6 (Addr.add (Addr.add t47 ((t46).toNat * 7)) 2) fun t948_2 => ldB h6 (Addr.add (Addr.add t47 ((t46).toNat * 7)) 3) fun t948_3 => ldI h6 (Addr.add (Addr.add t47 ((t46).toNat * 7)) 4) .i64 fun t948_4 => ldI h6 (Addr.add (Addr.add t47 ((t46).toNat * 7)) 5) .i64 fun t948_5 => ldB h6 (Addr.add (Addr.add t47 ((t46).toNat * 7)) 6) fun t948_6 => (.agg #[.string t948_0, .bool t948_1, .bool t948_2, .bool t948_3, .int .i64 t948_4, .int .i64 t948_5, .bool t948_6] : Value) = .agg #[.string t48_0, .bool t48_1, .bool t48_2, .bool t48_3, .int .i64 t48_4, .int .i64 t48_5, .bool t48_6]) ∧ stN h6 t10 [.string t48_0, .bool t48_1, .bool t48_2, .bool t48_3, .int .i64 t48_4, .int .i64 t48_5, .bool t48_6] 0 fun h7 => ldS h7 t10 fun t50_0 => ldB h7 (Addr.add t10 1) fun t50_1 => ldB h7 (Addr.add t10 2) fun t50_2 => ldB h7 (Addr.add t10 3) fun t50_3 => ldI h7 (Addr.add t10 4) .i64 fun t50_4 => ldI h7 (Addr.add t10 5) .i64 fun t50_5 => ldB h7 (Addr.add t10 6) fun t50_6 => ldP h7 s_3 fun t51 => nn t51 fun t52 => ldS h7 (Addr.add t52 2) fun t54 => (CallT Try.prog fn_content_Bounds #[.agg #[.string t50_0, .bool t50_1, .bool t50_2, .bool t50_3, .int .i64 t50_4, .int .i64 t50_5, .bool t50_6], .int .i64 ((t54.size : Nat) : Int), .int .i64 cursor_2] h7 fun v h8 => ∃ t57_0 : Int, ∃ t57_1 : Int, v = .tuple #[.int .i64 t57_0, .int .i64 t57_1] ∧ alV h8 (.cells #[.int .i64 0] T_int) fun t11 h9 => (ldS h9 t10 fun t950_0 => ldB h9 (Addr.add t10 1) fun t950_1 => ldB h9 (Addr.add t10 2) fun t950_2 => ldB h9 (Addr.add t10 3) fun t950_3 => ldI h9 (Addr.add t10 4) .i64 fun t950_4 => ldI h9 (Addr.add t10 5) .i64 fun t950_5 => ldB h9 (Addr.add t10 6) fun t950_6 => (.agg #[.string t950_0, .bool t950_1, .bool t950_2, .bool t950_3, .int .i64 t950_4, .int .i64 t950_5, .bool t950_6] : Value) = .agg #[.string t50_0, .bool t50_1, .bool t50_2, .bool t50_3, .int .i64 t50_4, .int .i64 t50_5, .bool t50_6]) ∧ (ldP h9 s_3 fun t951 => (.pointer t951 : Value) = .pointer t51) ∧ (ldS h9 (Addr.add t52 2) fun t954 => (.string t954 : Value) = .string t54) ∧ st1 h9 t11 (.int .i64 t57_0) fun h10 => LoopV (fun (s : Addr × Addr × Int × Addr × Addr × Addr × Addr) h Kn => content_search_from_l1 cursor_2 s_3 i_4 Q s.1 s.2.1 s.2.2.1 s.2.2.2.1 s.2.2.2.2.1 s.2.2.2.2.2.1 s.2.2.2.2.2.2 h Kn) (t10, t11, t57_1, s_3, t10, t11, i_4) h10) ∧ (alV h7 (.cells #[.int .i64 0] T_int) fun t11 h15 => (ldS h15 t10 fun t950_0 => ldB h15 (Addr.add t10 1) fun t950_1 => ldB h15 (Addr.add t10 2) fun t950_2 => ldB h15 (Addr.add t10 3) fun t950_3 => ldI h15 (Addr.add t10 4) .i64 fun t950_4 => ldI h15 (Addr.add t10 5) .i64 fun t950_5 => ldB h15 (Addr.add t10 6) fun t950_6 => (.agg #[.string t950_0, .bool t950_1, .bool t950_2, .bool t950_3, .int .i64 t950_4, .int .i64 t950_5, .bool t950_6] : Value) = .agg #[.string t50_0, .bool t50_1, .bool t50_2, .bool t50_3, .int .i64 t50_4, .int .i64 t50_5, .bool t50_6]) ∧ (ldP h15 s_3 fun t951 => (.pointer t951 : Value) = .pointer t51) ∧ (ldS h15 (Addr.add t52 2) fun t954 => (.string t954 : Value) = .string t54) ∧ CallT Try.prog fn_content_Bounds #[.agg #[.string t50_0, .bool t50_1, .bool t50_2, .bool t50_3, .int .i64 t50_4, .int .i64 t50_5, .bool t50_6], .int .i64 ((t54.size : Nat) : Int), .int .i64 cursor_2] h15 fun v h16 => ∃ t57_0 : Int, ∃ t57_1 : Int, v = .tuple #[.int .i64 t57_0, .int .i64 t57_1] ∧ st1 h16 t11 (.int .i64 t57_0) fun h17 => LoopV (fun (s : Addr × Addr × Int × Addr × Addr × Addr × Addr) h Kn => content_search_from_l1 cursor_2 s_3 i_4 Q s.1 s.2.1 s.2.2.1 s.2.2.2.1 s.2.2.2.2.1 s.2.2.2.2.2.1 s.2.2.2.2.2.2 h Kn) (t10, t11, t57_1, s_3, t10, t11, i_4) h17))
def content_search_from_b2 (cursor_2 : Int) (s_3 i_4 : Addr) (Q : QT) (h : Heap) : Prop :=
 ldI h i_4 .i64 fun t16 => ldP h s_3 fun t17 => nn t17 fun t18 => ldL h t18 fun t20a t20n t20c => if (t16 == ((t20n : Nat) : Int)) = true then (ldP h s_3 fun t23 => nn t23 fun t24 => ldL h (Addr.add t24 1) fun t26a t26n t26c => LoopV (fun (s : Int) h Kn => content_search_from_l3 cursor_2 s_3 t26a t26n t26c ((t26n : Nat) : Int) Q s h Kn) 0 h) else (content_search_from_b4 cursor_2 s_3 i_4 Q h)
def content_search_from_v (s_0 : Option Addr) (i_1 cursor_2 : Int) (Q : QT) (h : Heap) : Prop :=
 alV h (.cells #[.pointer s_0] T_p_content_search) fun t3 h1 => alV h1 (.cells #[.int .i64 i_1] T_int) fun t4 h2 => content_search_from_b2 cursor_2 t3 t4 Q h2
set_option maxRecDepth 100000 in
theorem content_search_from_s (s_0 : Option Addr) (i_1 cursor_2 : Int) {Q : QT} {h : Heap} (hk : content_search_from_v s_0 i_1 cursor_2 Q h) : CallT Try.prog fn_content_search_from #[.pointer s_0, .int .i64 i_1, .int .i64 cursor_2] h Q :=
 callU follows Try.func50 (Try.call50 _) rfl rfl [] [(5, fun e h => dI .i64 (e 2) fun cursor_2 => dA (e 3) fun s_3 => dA (e 4) fun i_4 => content_search_from_b2 cursor_2 s_3 i_4 Q h)]
 trivial
 ⟨⟨by kernel_rfl, fun e h he hk => by
 have F := Ag.nil (e := e)
 have ⟨cursor_2, F, hk⟩ := eI F hk
 have ⟨s_3, F, hk⟩ := eA F hk
 have ⟨i_4, F, hk⟩ := eA F hk
 exact scopeU (body := (fun (s : Addr × Addr × Int × Addr × Addr × Addr × Addr) h Kn => content_search_from_l1 cursor_2 s_3 i_4 Q s.1 s.2.1 s.2.2.1 s.2.2.2.1 s.2.2.2.2.1 s.2.2.2.2.2.1 s.2.2.2.2.2.2 h Kn)) follows 0 (fun _ h => by cases h) he F (fun s => [(13, .func (.func 61) #[] #[.pointer (some s.2.2.2.1), .pointer (some s.2.2.2.2.1), .pointer (some s.2.2.2.2.2.1), .pointer (some s.2.2.2.2.2.2)]), (12, .int .i64 s.2.2.1), (11, .pointer (some s.2.1)), (10, .pointer (some s.1))]) (by kernel_rfl) (by kernel_rfl) (by kernel_rfl) (fun Kn1 e h => dA (e 10) fun c_10 => dA (e 11) fun at_11 => dI .i64 (e 12) fun last_12 => dF 61 (e 13) fun l13_1 => dC l13_1 fun v13_2 l13_2 => dA v13_2 fun step_13_0 => dC l13_2 fun v13_3 l13_3 => dA v13_3 fun step_13_1 => dC l13_3 fun v13_4 l13_4 => dA v13_4 fun step_13_2 => dC l13_4 fun v13_5 l13_5 => dA v13_5 fun step_13_3 => dE l13_5 (Kn1 (c_10, at_11, last_12, step_13_0, step_13_1, step_13_2, step_13_3) h)) (fun Kn1 e h hk => by
  have F := Ag.nil (e := e)
  have ⟨c_10, F, hk⟩ := eA F hk
  have ⟨at_11, F, hk⟩ := eA F hk
  have ⟨last_12, F, hk⟩ := eI F hk
  obtain ⟨l13_1, F, hk2⟩ := eF F hk; clear hk; have hk := hk2; clear hk2
  obtain ⟨v13_2, l13_2, q, hk2⟩ := dC_elim hk
  clear hk; subst q; have hk := hk2; clear hk2
  obtain ⟨step_13_0, q, hk2⟩ := dA_elim hk
  clear hk; subst q; have hk := hk2; clear hk2
  obtain ⟨v13_3, l13_3, q, hk2⟩ := dC_elim hk
  clear hk; subst q; have hk := hk2; clear hk2
  obtain ⟨step_13_1, q, hk2⟩ := dA_elim hk
  clear hk; subst q; have hk := hk2; clear hk2
  obtain ⟨v13_4, l13_4, q, hk2⟩ := dC_elim hk
  clear hk; subst q; have hk := hk2; clear hk2
  obtain ⟨step_13_2, q, hk2⟩ := dA_elim hk
  clear hk; subst q; have hk := hk2; clear hk2
  obtain ⟨v13_5, l13_5, q, hk2⟩ := dC_elim hk
  clear hk; subst q; have hk := hk2; clear hk2
  obtain ⟨step_13_3, q, hk2⟩ := dA_elim hk
  clear hk; subst q; have hk := hk2; clear hk2
  obtain ⟨q, hk2⟩ := dE_elim hk
  clear hk; subst q; have hk := hk2; clear hk2
  exact ⟨(c_10, at_11, last_12, step_13_0, step_13_1, step_13_2, step_13_3), F, hk⟩) (fun e h => dI .i64 (e 2) fun cursor_2 => dA (e 3) fun s_3 => dA (e 4) fun i_4 => dA (e 10) fun c_10 => dA (e 11) fun at_11 => dI .i64 (e 12) fun last_12 => dF 61 (e 13) fun l13_1 => dC l13_1 fun v13_2 l13_2 => dA v13_2 fun step_13_0 => dC l13_2 fun v13_3 l13_3 => dA v13_3 fun step_13_1 => dC l13_3 fun v13_4 l13_4 => dA v13_4 fun step_13_2 => dC l13_4 fun v13_5 l13_5 => dA v13_5 fun step_13_3 => dE l13_5 (LoopV (fun (s : Addr × Addr × Int × Addr × Addr × Addr × Addr) h Kn => content_search_from_l1 cursor_2 s_3 i_4 Q s.1 s.2.1 s.2.2.1 s.2.2.2.1 s.2.2.2.2.1 s.2.2.2.2.2.1 s.2.2.2.2.2.2 h Kn) (c_10, at_11, last_12, step_13_0, step_13_1, step_13_2, step_13_3) h)) (fun e h => by as_aux_lemma => kernel_rfl) (fun e s h => by as_aux_lemma => kernel_rfl)
  [(20, fun e h => dI .i64 (e 2) fun cursor_2 => dA (e 3) fun s_3 => dA (e 4) fun i_4 => content_search_from_b4 cursor_2 s_3 i_4 Q h)] [(8, fun e h => dI .i64 (e 2) fun cursor_2 => dA (e 3) fun s_3 => dL (e 26) fun t26a t26n t26c => dI .i64 (e 27) fun t27 => dI .i64 (e 28) fun t28 => LoopV (fun (s : Int) h Kn => content_search_from_l3 cursor_2 s_3 t26a t26n t26c t27 Q s h Kn) t28 h)]
  ⟨fun e h _ hk => by
 have F := Ag.nil (e := e)
 have ⟨cursor_2, F, hk⟩ := eI F hk
 have ⟨s_3, F, hk⟩ := eA F hk
 have ⟨i_4, F, hk⟩ := eA F hk
 exact cutU F (by as_aux_lemma => kernel_rfl) hk, trivial⟩ (by kernel_rfl)
  ⟨⟨by kernel_rfl, fun e h he hk => by
 have F := Ag.nil (e := e)
 have ⟨cursor_2, F, hk⟩ := eI F hk
 have ⟨s_3, F, hk⟩ := eA F hk
 have ⟨t26a, t26n, t26c, F, hk⟩ := eL F hk
 have ⟨t27, F, hk⟩ := eI F hk
 have ⟨t28, F, hk⟩ := eI F hk
 exact loopU (s0 := t28) follows (keep_sub (by kernel_rfl)) he F (fun s => [(28, .int .i64 s)]) (by kernel_rfl) (F.take 1) hk (fun Kn3 e h => dI .i64 (e 28) fun t28 => Kn3 t28 h) (fun Kn3 e h hk => by
  have F := Ag.nil (e := e)
  have ⟨t28, F, hk⟩ := eI F hk
  exact ⟨t28, F, hk⟩)
  (fun Kn3 => []) (fun Kn3 => [])
  (fun Kn3 => trivial)
  (fun Kn3 => trivial) (fun e s h Kn3 => by as_aux_lemma => kernel_rfl)⟩, trivial⟩ (by as_aux_lemma => kernel_rfl) hk
  (fun Kn1 => []) (fun Kn1 => [])
  (fun Kn1 => trivial)
  (fun Kn1 => trivial) (fun e s h Kn1 => by as_aux_lemma => kernel_rfl)⟩, trivial⟩ (by as_aux_lemma => kernel_rfl) hk
/-! ### intrusion/automaton.lower -/
def automaton_lower_l1 (out_3a : Option Addr) (out_3n out_3c : Nat) (t8a : Option Addr) (t8n t8c : Nat) (t9 : Int) (Q : QT) (t10 : Int) (h : Heap) (Kn1 : Int → Heap → Prop) : Prop :=
 if (decide (t10 < t9)) = true then (idxA t10 t8n (nn t8a fun t13 => ldI h (Addr.add t13 ((t10).toNat * 1)) .u8 fun t14 => CallT Try.prog fn_automaton_small #[.int .u8 t14] h fun v h2 => ∃ t18 : Int, v = .int .u8 t18 ∧ idxA t10 out_3n (nn out_3a fun t19 => st1 h2 (Addr.add t19 ((t10).toNat * 1)) (.int .u8 t18) fun h3 => Kn1 (wrap .i64 (t10 + 1)) h3))) else (convV Try.prog T_sl_uint8 T_string (.slice out_3a out_3n out_3c) h fun v h4 => ∃ t22 : ByteArray, v = .string t22 ∧ Q (.string t22) h4)
def automaton_lower_v (s_0 : ByteArray) (Q : QT) (h : Heap) : Prop :=
 convV Try.prog T_string T_sl_uint8 (.string s_0) h fun v h1 => ∃ t7a : Option Addr, ∃ t7n : Nat, ∃ t7c : Nat, v = .slice t7a t7n t7c ∧ LoopV (fun (s : Int) h Kn => automaton_lower_l1 t7a t7n t7c t7a t7n t7c ((t7n : Nat) : Int) Q s h Kn) 0 h1
set_option maxRecDepth 100000 in
theorem automaton_lower_s (s_0 : ByteArray) {Q : QT} {h : Heap} (hk : automaton_lower_v s_0 Q h) : CallT Try.prog fn_automaton_lower #[.string s_0] h Q :=
 callU follows Try.func51 (Try.call51 _) rfl rfl [] [(8, fun e h => dL (e 3) fun out_3a out_3n out_3c => dL (e 8) fun t8a t8n t8c => dI .i64 (e 9) fun t9 => dI .i64 (e 10) fun t10 => LoopV (fun (s : Int) h Kn => automaton_lower_l1 out_3a out_3n out_3c t8a t8n t8c t9 Q s h Kn) t10 h)]
 trivial
 ⟨⟨by kernel_rfl, fun e h he hk => by
 have F := Ag.nil (e := e)
 have ⟨out_3a, out_3n, out_3c, F, hk⟩ := eL F hk
 have ⟨t8a, t8n, t8c, F, hk⟩ := eL F hk
 have ⟨t9, F, hk⟩ := eI F hk
 have ⟨t10, F, hk⟩ := eI F hk
 exact loopU (s0 := t10) follows (fun _ h => by cases h) he F (fun s => [(10, .int .i64 s)]) (by kernel_rfl) (F.take 1) hk (fun Kn1 e h => dI .i64 (e 10) fun t10 => Kn1 t10 h) (fun Kn1 e h hk => by
  have F := Ag.nil (e := e)
  have ⟨t10, F, hk⟩ := eI F hk
  exact ⟨t10, F, hk⟩)
  (fun Kn1 => []) (fun Kn1 => [])
  (fun Kn1 => trivial)
  (fun Kn1 => trivial) (fun e s h Kn1 => by as_aux_lemma => kernel_rfl)⟩, trivial⟩ (by as_aux_lemma => kernel_rfl) hk
/-! ### strings.HasSuffix -/
def strings_HasSuffix_v (s_0 suffix_1 : ByteArray) (Q : QT) (h : Heap) : Prop :=
 CallT Try.prog fn_internal_stringslite_HasSuffix #[.string s_0, .string suffix_1] h fun v h1 => ∃ t7 : Bool, v = .bool t7 ∧ Q (.bool t7) h1
set_option maxRecDepth 100000 in
theorem strings_HasSuffix_s (s_0 suffix_1 : ByteArray) {Q : QT} {h : Heap} (hk : strings_HasSuffix_v s_0 suffix_1 Q h) : CallT Try.prog fn_strings_HasSuffix #[.string s_0, .string suffix_1] h Q :=
 callU follows Try.func52 (Try.call52 _) rfl rfl [] []
 trivial
 trivial (by as_aux_lemma => kernel_rfl) hk
/-! ### internal/stringslite.Clone -/
def internal_stringslite_Clone_v (s_0 : ByteArray) (Q : QT) (h : Heap) : Prop :=
 if (((s_0.size : Nat) : Int) == 0) = true then (Q (.string (⟨#[]⟩ : ByteArray)) h) else (mkSlV Try.prog T_sl_uint8 (.int .i64 ((s_0.size : Nat) : Int)) (.int .i64 ((s_0.size : Nat) : Int)) h fun v h1 => ∃ t9a : Option Addr, ∃ t9n : Nat, ∃ t9c : Nat, v = .slice t9a t9n t9c ∧ bltV Try.prog .copy #[T_sl_uint8, T_string] T_int #[false, false] #[.slice t9a t9n t9c, .string s_0] h1 fun v h2 => ∃ t12 : Int, v = .int .i64 t12 ∧ idxA (0 : Int) t9n (nn t9a fun t14 => bltV Try.prog .unsafeString #[T_p_uint8, T_int] T_string #[false, false] #[.pointer (some (Addr.add t14 (((0 : Int)).toNat * 1))), .int .i64 ((t9n : Nat) : Int)] h2 fun v h3 => ∃ t17 : ByteArray, v = .string t17 ∧ Q (.string t17) h3))
set_option maxRecDepth 100000 in
theorem internal_stringslite_Clone_s (s_0 : ByteArray) {Q : QT} {h : Heap} (hk : internal_stringslite_Clone_v s_0 Q h) : CallT Try.prog fn_internal_stringslite_Clone #[.string s_0] h Q :=
 callU follows Try.func53 (Try.call53 _) rfl rfl [] []
 trivial
 trivial (by as_aux_lemma => kernel_rfl) hk
/-! ### intrusion/intrusionref04.IsName -/
def ref04_IsName_l1 (s_0 : ByteArray) (Q : QT) (i_3 : Int) (h : Heap) (Kn1 : Int → Heap → Prop) : Prop :=
 if (decide (i_3 < ((s_0.size : Nat) : Int))) = true then (idxS s_0 i_3 fun t25 => CallT Try.prog fn_ref04_inName #[.int .u8 t25] h fun v h2 => ∃ t26 : Bool, v = .bool t26 ∧ if (!t26) = true then (Q (.bool false) h2) else (Kn1 (wrap .i64 (i_3 + 1)) h2)) else (Q (.bool true) h)
def ref04_IsName_v (s_0 : ByteArray) (Q : QT) (h : Heap) : Prop :=
 if (s_0.toList == (⟨#[]⟩ : ByteArray).toList) = true then (Q (.bool false) h) else (if (decide (((s_0.size : Nat) : Int) > 32)) = true then (Q (.bool false) h) else (idxS s_0 (0 : Int) fun t13 => CallT Try.prog fn_ref04_Letter #[.int .u8 t13] h fun v h1 => ∃ t14 : Bool, v = .bool t14 ∧ if (!t14) = true then (Q (.bool false) h1) else (LoopV (fun (s : Int) h Kn => ref04_IsName_l1 s_0 Q s h Kn) 0 h1)))
set_option maxRecDepth 100000 in
theorem ref04_IsName_s (s_0 : ByteArray) {Q : QT} {h : Heap} (hk : ref04_IsName_v s_0 Q h) : CallT Try.prog fn_ref04_IsName #[.string s_0] h Q :=
 callU follows Try.func54 (Try.call54 _) rfl rfl [] [(10, fun e h => dS (e 0) fun s_0 => dI .i64 (e 3) fun i_3 => LoopV (fun (s : Int) h Kn => ref04_IsName_l1 s_0 Q s h Kn) i_3 h)]
 trivial
 ⟨⟨by kernel_rfl, fun e h he hk => by
 have F := Ag.nil (e := e)
 have ⟨s_0, F, hk⟩ := eS F hk
 have ⟨i_3, F, hk⟩ := eI F hk
 exact loopU (s0 := i_3) follows (fun _ h => by cases h) he F (fun s => [(3, .int .i64 s)]) (by kernel_rfl) (F.take 1) hk (fun Kn1 e h => dI .i64 (e 3) fun i_3 => Kn1 i_3 h) (fun Kn1 e h hk => by
  have F := Ag.nil (e := e)
  have ⟨i_3, F, hk⟩ := eI F hk
  exact ⟨i_3, F, hk⟩)
  (fun Kn1 => []) (fun Kn1 => [])
  (fun Kn1 => trivial)
  (fun Kn1 => trivial) (fun e s h Kn1 => by as_aux_lemma => kernel_rfl)⟩, trivial⟩ (by as_aux_lemma => kernel_rfl) hk
/-! ### intrusion/intrusionref43.offset -/
def ref43_offset_v (n_0 : Int) (relative_1 : Bool) (Q : QT) (h : Heap) : Prop :=
 if (decide (n_0 ≤ 1024)) = true then (if (decide (n_0 ≥ 0)) = true then (Q (.bool true) h) else (if relative_1 = true then (Q (.bool (decide (n_0 ≥ (-1024)))) h) else (Q (.bool false) h))) else (Q (.bool false) h)
set_option maxRecDepth 100000 in
theorem ref43_offset_s (n_0 : Int) (relative_1 : Bool) {Q : QT} {h : Heap} (hk : ref43_offset_v n_0 relative_1 Q h) : CallT Try.prog fn_ref43_offset #[.int .i64 n_0, .bool relative_1] h Q :=
 callU follows Try.func55 (Try.call55 _) rfl rfl [] []
 trivial
 trivial (by as_aux_lemma => kernel_rfl) hk
/-! ### intrusion/intrusionref43.ports -/
def ref43_ports_l1 (l_0a : Option Addr) (l_0n l_0c : Nat) (Q : QT) (i_3 : Int) (h : Heap) (Kn1 : Int → Heap → Prop) : Prop :=
 if (decide (i_3 < ((l_0n : Nat) : Int))) = true then (idxA i_3 l_0n (nn l_0a fun t12 => ldB h (Addr.add t12 ((i_3).toNat * 4)) fun t13_0 => ldS h (Addr.add (Addr.add t12 ((i_3).toNat * 4)) 1) fun t13_1 => ldI h (Addr.add (Addr.add t12 ((i_3).toNat * 4)) 2) .i64 fun t13_2 => ldI h (Addr.add (Addr.add t12 ((i_3).toNat * 4)) 3) .i64 fun t13_3 => CallT Try.prog fn_ref43_port #[.agg #[.bool t13_0, .string t13_1, .int .i64 t13_2, .int .i64 t13_3]] h fun v h1 => ∃ t14 : Bool, v = .bool t14 ∧ if (!t14) = true then (Q (.bool false) h1) else (Kn1 (wrap .i64 (i_3 + 1)) h1))) else (Q (.bool true) h)
def ref43_ports_v (l_0a : Option Addr) (l_0n l_0c : Nat) (Q : QT) (h : Heap) : Prop :=
 LoopV (fun (s : Int) h Kn => ref43_ports_l1 l_0a l_0n l_0c Q s h Kn) 0 h
set_option maxRecDepth 100000 in
theorem ref43_ports_s (l_0a : Option Addr) (l_0n l_0c : Nat) {Q : QT} {h : Heap} (hk : ref43_ports_v l_0a l_0n l_0c Q h) : CallT Try.prog fn_ref43_ports #[.slice l_0a l_0n l_0c] h Q :=
 callU follows Try.func56 (Try.call56 _) rfl rfl [] [(6, fun e h => dL (e 0) fun l_0a l_0n l_0c => dI .i64 (e 3) fun i_3 => LoopV (fun (s : Int) h Kn => ref43_ports_l1 l_0a l_0n l_0c Q s h Kn) i_3 h)]
 trivial
 ⟨⟨by kernel_rfl, fun e h he hk => by
 have F := Ag.nil (e := e)
 have ⟨l_0a, l_0n, l_0c, F, hk⟩ := eL F hk
 have ⟨i_3, F, hk⟩ := eI F hk
 exact loopU (s0 := i_3) follows (fun _ h => by cases h) he F (fun s => [(3, .int .i64 s)]) (by kernel_rfl) (F.take 1) hk (fun Kn1 e h => dI .i64 (e 3) fun i_3 => Kn1 i_3 h) (fun Kn1 e h hk => by
  have F := Ag.nil (e := e)
  have ⟨i_3, F, hk⟩ := eI F hk
  exact ⟨i_3, F, hk⟩)
  (fun Kn1 => []) (fun Kn1 => [])
  (fun Kn1 => trivial)
  (fun Kn1 => trivial) (fun e s h Kn1 => by as_aux_lemma => kernel_rfl)⟩, trivial⟩ (by as_aux_lemma => kernel_rfl) hk
/-! ### intrusion/intrusionref43.Threshold -/
def ref43_Threshold_v (t_0_0 t_0_1 t_0_2 t_0_3 : Int) (Q : QT) (h : Heap) : Prop :=
 alV h (.cells #[.int .i64 t_0_0, .int .i64 t_0_1, .int .i64 t_0_2, .int .i64 t_0_3] T_api_Threshold) fun t1 h1 => ldI h1 t1 .i64 fun t4 => if (t4 == 0) = true then (ldI h1 t1 .i64 fun t6_0 => ldI h1 (Addr.add t1 1) .i64 fun t6_1 => ldI h1 (Addr.add t1 2) .i64 fun t6_2 => ldI h1 (Addr.add t1 3) .i64 fun t6_3 => Q (.bool ((t6_0 == (0 : Int)) && ((t6_1 == (0 : Int)) && ((t6_2 == (0 : Int)) && ((t6_3 == (0 : Int)) && true))))) h1) else (ldI h1 t1 .i64 fun t10 => if (decide (t10 ≥ 1)) = true then (ldI h1 t1 .i64 fun t14 => if (decide (t14 ≤ 3)) = true then (ldI h1 (Addr.add t1 1) .i64 fun t19 => if (decide (t19 ≥ 1)) = true then (ldI h1 (Addr.add t1 1) .i64 fun t24 => if (decide (t24 ≤ 3)) = true then (ldI h1 (Addr.add t1 2) .i64 fun t29 => if (decide (t29 ≥ 1)) = true then (ldI h1 (Addr.add t1 2) .i64 fun t34 => if (decide (t34 ≤ 65536)) = true then (ldI h1 (Addr.add t1 3) .i64 fun t39 => if (decide (t39 ≥ 1)) = true then (ldI h1 (Addr.add t1 3) .i64 fun t44 => Q (.bool (decide (t44 ≤ 86400))) h1) else (Q (.bool false) h1)) else (Q (.bool false) h1)) else (Q (.bool false) h1)) else (Q (.bool false) h1)) else (Q (.bool false) h1)) else (Q (.bool false) h1)) else (Q (.bool false) h1))
set_option maxRecDepth 100000 in
theorem ref43_Threshold_s (t_0_0 t_0_1 t_0_2 t_0_3 : Int) {Q : QT} {h : Heap} (hk : ref43_Threshold_v t_0_0 t_0_1 t_0_2 t_0_3 Q h) : CallT Try.prog fn_ref43_Threshold #[.agg #[.int .i64 t_0_0, .int .i64 t_0_1, .int .i64 t_0_2, .int .i64 t_0_3]] h Q :=
 callU follows Try.func57 (Try.call57 _) rfl rfl [] []
 trivial
 trivial (by as_aux_lemma => kernel_rfl) hk
/-! ### intrusion/intrusionref06.ValidPrefix -/
def ref06_ValidPrefix_v (p_0_0 : Bool) (p_0_1 p_0_2 p_0_3 : Int) (Q : QT) (h : Heap) : Prop :=
 alV h (.cells #[.bool p_0_0, .int .u64 p_0_1, .int .u64 p_0_2, .int .i64 p_0_3] T_api_Prefix) fun t1 h1 => ldB h1 t1 fun t4_0 => ldI h1 (Addr.add t1 1) .u64 fun t4_1 => ldI h1 (Addr.add t1 2) .u64 fun t4_2 => CallT Try.prog fn_ref06_Valid #[.agg #[.bool t4_0, .int .u64 t4_1, .int .u64 t4_2]] h1 fun v h2 => ∃ t5 : Bool, v = .bool t5 ∧ if t5 = true then (ldI h2 (Addr.add t1 3) .i64 fun t8 => if (decide (t8 ≥ 0)) = true then (ldI h2 (Addr.add t1 3) .i64 fun t13 => ldB h2 t1 fun t15_0 => ldI h2 (Addr.add t1 1) .u64 fun t15_1 => ldI h2 (Addr.add t1 2) .u64 fun t15_2 => CallT Try.prog fn_ref06_Width #[.agg #[.bool t15_0, .int .u64 t15_1, .int .u64 t15_2]] h2 fun v h3 => ∃ t16 : Int, v = .int .i64 t16 ∧ (ldI h3 (Addr.add t1 3) .i64 fun t913 => (.int .i64 t913 : Value) = .int .i64 t13) ∧ if (decide (t13 ≤ t16)) = true then (ldB h3 t1 fun t21_0 => ldI h3 (Addr.add t1 1) .u64 fun t21_1 => ldI h3 (Addr.add t1 2) .u64 fun t21_2 => ldI h3 (Addr.add t1 3) .i64 fun t23 => ldB h3 t1 fun t26_0 => ldI h3 (Addr.add t1 1) .u64 fun t26_1 => ldI h3 (Addr.add t1 2) .u64 fun t26_2 => CallT Try.prog fn_ref06_with #[.agg #[.bool t21_0, .int .u64 t21_1, .int .u64 t21_2], .int .i64 t23, .bool false] h3 fun v h4 => ∃ t24_0 : Bool, ∃ t24_1 : Int, ∃ t24_2 : Int, v = .agg #[.bool t24_0, .int .u64 t24_1, .int .u64 t24_2] ∧ (ldB h4 t1 fun t926_0 => ldI h4 (Addr.add t1 1) .u64 fun t926_1 => ldI h4 (Addr.add t1 2) .u64 fun t926_2 => (.agg #[.bool t926_0, .int .u64 t926_1, .int .u64 t926_2] : Value) = .agg #[.bool t26_0, .int .u64 t26_1, .int .u64 t26_2]) ∧ Q (.bool ((t24_0 == t26_0) && ((t24_1 == t26_1) && ((t24_2 == t26_2) && true)))) h4) else (Q (.bool false) h3)) else (Q (.bool false) h2)) else (Q (.bool false) h2)
set_option maxRecDepth 100000 in
theorem ref06_ValidPrefix_s (p_0_0 : Bool) (p_0_1 p_0_2 p_0_3 : Int) {Q : QT} {h : Heap} (hk : ref06_ValidPrefix_v p_0_0 p_0_1 p_0_2 p_0_3 Q h) : CallT Try.prog fn_ref06_ValidPrefix #[.agg #[.bool p_0_0, .int .u64 p_0_1, .int .u64 p_0_2, .int .i64 p_0_3]] h Q :=
 callU follows Try.func58 (Try.call58 _) rfl rfl [] []
 trivial
 trivial (by as_aux_lemma => kernel_rfl) hk
/-! ### intrusion/content.Test -/
def content_Test_b3 (data_1 : ByteArray) (t_3 : Addr) (at_7 n_8 k_10 t52 t53 : Int) (Q : QT) (Kn2 : Int × Int → Heap → Prop) (h : Heap) : Prop :=
 0 ≤ (8 : Int) ∧ idxS data_1 (wrap .i64 (at_7 + k_10)) fun t70 => Kn2 (wrap .i64 (BitVec.toNat (BitVec.ofInt (IntKind.bits .i64) (wrap .i64 (n_8 * 2 ^ (min (Int.toNat 8) (IntKind.bits .i64)))) ||| BitVec.ofInt (IntKind.bits .i64) (wrap .i64 t70)) : Int), wrap .i64 (t53 + 1)) h
def content_Test_b5 (t_3 : Addr) (ok_11 : Bool) (Q : QT) (h : Heap) : Prop :=
 ldB h (Addr.add t_3 6) fun t103 => Q (.bool (!(ok_11 == t103))) h
def content_Test_b4 (t_3 : Addr) (n_8 : Int) (Q : QT) (h : Heap) : Prop :=
 ldI h t_3 .i64 fun t75 => if (t75 == 1) = true then (ldI h (Addr.add t_3 2) .i64 fun t80 => content_Test_b5 t_3 (decide (n_8 < t80)) Q h) else (if (t75 == 2) = true then (ldI h (Addr.add t_3 2) .i64 fun t86 => content_Test_b5 t_3 (n_8 == t86) Q h) else (if (t75 == 3) = true then (ldI h (Addr.add t_3 2) .i64 fun t92 => content_Test_b5 t_3 (decide (n_8 > t92)) Q h) else (if (t75 == 4) = true then (ldI h (Addr.add t_3 2) .i64 fun t98 => content_Test_b5 t_3 ((wrap .i64 (BitVec.toNat (BitVec.ofInt (IntKind.bits .i64) n_8 &&& BitVec.ofInt (IntKind.bits .i64) t98) : Int)) != 0) Q h) else (Q (.bool false) h))))
def content_Test_l2 (data_1 : ByteArray) (t_3 : Addr) (at_7 t52 : Int) (Q : QT) (n_8 t53 : Int) (h : Heap) (Kn2 : Int × Int → Heap → Prop) : Prop :=
 if (decide (t53 < t52)) = true then (ldB h (Addr.add t_3 5) fun t58 => if t58 = true then (ldI h (Addr.add t_3 1) .i64 fun t60 => content_Test_b3 data_1 t_3 at_7 n_8 (wrap .i64 ((wrap .i64 (t60 - 1)) - t53)) t52 t53 Q Kn2 h) else (content_Test_b3 data_1 t_3 at_7 n_8 t53 t52 t53 Q Kn2 h)) else (content_Test_b4 t_3 n_8 Q h)
def content_Test_b1 (data_1 : ByteArray) (t_3 : Addr) (at_7 : Int) (Q : QT) (h : Heap) : Prop :=
 ldI h (Addr.add t_3 1) .i64 fun t20 => if (t20 != 1) = true then (ldI h (Addr.add t_3 1) .i64 fun t24 => if (t24 != 2) = true then (ldI h (Addr.add t_3 1) .i64 fun t29 => if (t29 != 4) = true then (Q (.bool false) h) else (if (decide (at_7 < 0)) = true then (Q (.bool false) h) else (if (decide (at_7 > ((data_1.size : Nat) : Int))) = true then (Q (.bool false) h) else (ldI h (Addr.add t_3 1) .i64 fun t48 => if (decide ((wrap .i64 (((data_1.size : Nat) : Int) - at_7)) < t48)) = true then (Q (.bool false) h) else (ldI h (Addr.add t_3 1) .i64 fun t52 => LoopV (fun (s : Int × Int) h Kn => content_Test_l2 data_1 t_3 at_7 t52 Q s.1 s.2 h Kn) (0, 0) h))))) else (if (decide (at_7 < 0)) = true then (Q (.bool false) h) else (if (decide (at_7 > ((data_1.size : Nat) : Int))) = true then (Q (.bool false) h) else (ldI h (Addr.add t_3 1) .i64 fun t48 => if (decide ((wrap .i64 (((data_1.size : Nat) : Int) - at_7)) < t48)) = true then (Q (.bool false) h) else (ldI h (Addr.add t_3 1) .i64 fun t52 => LoopV (fun (s : Int × Int) h Kn => content_Test_l2 data_1 t_3 at_7 t52 Q s.1 s.2 h Kn) (0, 0) h))))) else (if (decide (at_7 < 0)) = true then (Q (.bool false) h) else (if (decide (at_7 > ((data_1.size : Nat) : Int))) = true then (Q (.bool false) h) else (ldI h (Addr.add t_3 1) .i64 fun t48 => if (decide ((wrap .i64 (((data_1.size : Nat) : Int) - at_7)) < t48)) = true then (Q (.bool false) h) else (ldI h (Addr.add t_3 1) .i64 fun t52 => LoopV (fun (s : Int × Int) h Kn => content_Test_l2 data_1 t_3 at_7 t52 Q s.1 s.2 h Kn) (0, 0) h))))
def content_Test_v (t_0_0 t_0_1 t_0_2 t_0_3 : Int) (t_0_4 t_0_5 t_0_6 : Bool) (data_1 : ByteArray) (cursor_2 : Int) (Q : QT) (h : Heap) : Prop :=
 alV h (.cells #[.int .i64 t_0_0, .int .i64 t_0_1, .int .i64 t_0_2, .int .i64 t_0_3, .bool t_0_4, .bool t_0_5, .bool t_0_6] T_api_Test) fun t3 h1 => ldI h1 (Addr.add t3 3) .i64 fun t13 => ldB h1 (Addr.add t3 4) fun t15 => if t15 = true then (content_Test_b1 data_1 t3 (wrap .i64 (t13 + cursor_2)) Q h1) else (content_Test_b1 data_1 t3 t13 Q h1)
set_option maxRecDepth 100000 in
theorem content_Test_s (t_0_0 t_0_1 t_0_2 t_0_3 : Int) (t_0_4 t_0_5 t_0_6 : Bool) (data_1 : ByteArray) (cursor_2 : Int) {Q : QT} {h : Heap} (hk : content_Test_v t_0_0 t_0_1 t_0_2 t_0_3 t_0_4 t_0_5 t_0_6 data_1 cursor_2 Q h) : CallT Try.prog fn_content_Test #[.agg #[.int .i64 t_0_0, .int .i64 t_0_1, .int .i64 t_0_2, .int .i64 t_0_3, .bool t_0_4, .bool t_0_5, .bool t_0_6], .string data_1, .int .i64 cursor_2] h Q :=
 callU follows Try.func59 (Try.call59 _) rfl rfl [(10, fun e h => dS (e 1) fun data_1 => dA (e 3) fun t_3 => dI .i64 (e 7) fun at_7 => content_Test_b1 data_1 t_3 at_7 Q h), (32, fun e h => dA (e 3) fun t_3 => dI .i64 (e 8) fun n_8 => content_Test_b4 t_3 n_8 Q h), (54, fun e h => dA (e 3) fun t_3 => dB (e 11) fun ok_11 => content_Test_b5 t_3 ok_11 Q h)] [(18, fun e h => dS (e 1) fun data_1 => dA (e 3) fun t_3 => dI .i64 (e 7) fun at_7 => dI .i64 (e 52) fun t52 => dI .i64 (e 8) fun n_8 => dI .i64 (e 53) fun t53 => LoopV (fun (s : Int × Int) h Kn => content_Test_l2 data_1 t_3 at_7 t52 Q s.1 s.2 h Kn) (n_8, t53) h)]
 ⟨fun e h _ hk => by
 have F := Ag.nil (e := e)
 have ⟨data_1, F, hk⟩ := eS F hk
 have ⟨t_3, F, hk⟩ := eA F hk
 have ⟨at_7, F, hk⟩ := eI F hk
 exact cutU F (by as_aux_lemma => kernel_rfl) hk, fun e h _ hk => by
 have F := Ag.nil (e := e)
 have ⟨t_3, F, hk⟩ := eA F hk
 have ⟨n_8, F, hk⟩ := eI F hk
 exact cutU F (by as_aux_lemma => kernel_rfl) hk, fun e h _ hk => by
 have F := Ag.nil (e := e)
 have ⟨t_3, F, hk⟩ := eA F hk
 have ⟨ok_11, F, hk⟩ := eB F hk
 exact cutU F (by as_aux_lemma => kernel_rfl) hk, trivial⟩
 ⟨⟨by kernel_rfl, fun e h he hk => by
 have F := Ag.nil (e := e)
 have ⟨data_1, F, hk⟩ := eS F hk
 have ⟨t_3, F, hk⟩ := eA F hk
 have ⟨at_7, F, hk⟩ := eI F hk
 have ⟨t52, F, hk⟩ := eI F hk
 have ⟨n_8, F, hk⟩ := eI F hk
 have ⟨t53, F, hk⟩ := eI F hk
 exact loopU (s0 := (n_8, t53)) follows (fun _ h => by cases h) he F (fun s => [(53, .int .i64 s.2), (8, .int .i64 s.1)]) (by kernel_rfl) (F.take 2) hk (fun Kn2 e h => dI .i64 (e 8) fun n_8 => dI .i64 (e 53) fun t53 => Kn2 (n_8, t53) h) (fun Kn2 e h hk => by
  have F := Ag.nil (e := e)
  have ⟨n_8, F, hk⟩ := eI F hk
  have ⟨t53, F, hk⟩ := eI F hk
  exact ⟨(n_8, t53), F, hk⟩)
  (fun Kn2 => [(28, fun e h => dS (e 1) fun data_1 => dA (e 3) fun t_3 => dI .i64 (e 7) fun at_7 => dI .i64 (e 8) fun n_8 => dI .i64 (e 10) fun k_10 => dI .i64 (e 52) fun t52 => dI .i64 (e 53) fun t53 => content_Test_b3 data_1 t_3 at_7 n_8 k_10 t52 t53 Q Kn2 h)]) (fun Kn2 => [])
  (fun Kn2 => ⟨fun e h _ hk => by
 have F := Ag.nil (e := e)
 have ⟨data_1, F, hk⟩ := eS F hk
 have ⟨t_3, F, hk⟩ := eA F hk
 have ⟨at_7, F, hk⟩ := eI F hk
 have ⟨n_8, F, hk⟩ := eI F hk
 have ⟨k_10, F, hk⟩ := eI F hk
 have ⟨t52, F, hk⟩ := eI F hk
 have ⟨t53, F, hk⟩ := eI F hk
 exact cutU F (by as_aux_lemma => kernel_rfl) hk, trivial⟩)
  (fun Kn2 => trivial) (fun e s h Kn2 => by as_aux_lemma => kernel_rfl)⟩, trivial⟩ (by as_aux_lemma => kernel_rfl) hk
/-! ### intrusion/content.Bounds -/
def content_Bounds_b2 (c_3 : Addr) (lo_8 hi_9 : Int) (Q : QT) (h : Heap) : Prop :=
 ldS h c_3 fun t31 => if (decide ((wrap .i64 (hi_9 - ((t31.size : Nat) : Int))) < (if (0 : Int) > lo_8 then (0 : Int) else lo_8))) = true then (Q (.tuple #[.int .i64 0, .int .i64 (-1)]) h) else (ldS h c_3 fun t39 => Q (.tuple #[.int .i64 (if (0 : Int) > lo_8 then (0 : Int) else lo_8), .int .i64 (wrap .i64 (hi_9 - ((t39.size : Nat) : Int)))]) h)
def content_Bounds_b1 (size_1 : Int) (c_3 : Addr) (lo_8 : Int) (Q : QT) (h : Heap) : Prop :=
 ldI h (Addr.add c_3 5) .i64 fun t19 => if (t19 != 0) = true then (ldI h (Addr.add c_3 5) .i64 fun t23 => content_Bounds_b2 c_3 lo_8 (if size_1 < (wrap .i64 (lo_8 + t23)) then size_1 else (wrap .i64 (lo_8 + t23))) Q h) else (content_Bounds_b2 c_3 lo_8 size_1 Q h)
def content_Bounds_v (c_0_0 : ByteArray) (c_0_1 c_0_2 c_0_3 : Bool) (c_0_4 c_0_5 : Int) (c_0_6 : Bool) (size_1 cursor_2 : Int) (Q : QT) (h : Heap) : Prop :=
 alV h (.cells #[.string c_0_0, .bool c_0_1, .bool c_0_2, .bool c_0_3, .int .i64 c_0_4, .int .i64 c_0_5, .bool c_0_6] T_api_Content) fun t3 h1 => ldI h1 (Addr.add t3 4) .i64 fun t11 => ldB h1 (Addr.add t3 3) fun t13 => if t13 = true then (content_Bounds_b1 size_1 t3 (wrap .i64 (t11 + cursor_2)) Q h1) else (content_Bounds_b1 size_1 t3 t11 Q h1)
set_option maxRecDepth 100000 in
theorem content_Bounds_s (c_0_0 : ByteArray) (c_0_1 c_0_2 c_0_3 : Bool) (c_0_4 c_0_5 : Int) (c_0_6 : Bool) (size_1 cursor_2 : Int) {Q : QT} {h : Heap} (hk : content_Bounds_v c_0_0 c_0_1 c_0_2 c_0_3 c_0_4 c_0_5 c_0_6 size_1 cursor_2 Q h) : CallT Try.prog fn_content_Bounds #[.agg #[.string c_0_0, .bool c_0_1, .bool c_0_2, .bool c_0_3, .int .i64 c_0_4, .int .i64 c_0_5, .bool c_0_6], .int .i64 size_1, .int .i64 cursor_2] h Q :=
 callU follows Try.func60 (Try.call60 _) rfl rfl [(10, fun e h => dI .i64 (e 1) fun size_1 => dA (e 3) fun c_3 => dI .i64 (e 8) fun lo_8 => content_Bounds_b1 size_1 c_3 lo_8 Q h), (16, fun e h => dA (e 3) fun c_3 => dI .i64 (e 8) fun lo_8 => dI .i64 (e 9) fun hi_9 => content_Bounds_b2 c_3 lo_8 hi_9 Q h)] []
 ⟨fun e h _ hk => by
 have F := Ag.nil (e := e)
 have ⟨size_1, F, hk⟩ := eI F hk
 have ⟨c_3, F, hk⟩ := eA F hk
 have ⟨lo_8, F, hk⟩ := eI F hk
 exact cutU F (by as_aux_lemma => kernel_rfl) hk, fun e h _ hk => by
 have F := Ag.nil (e := e)
 have ⟨c_3, F, hk⟩ := eA F hk
 have ⟨lo_8, F, hk⟩ := eI F hk
 have ⟨hi_9, F, hk⟩ := eI F hk
 exact cutU F (by as_aux_lemma => kernel_rfl) hk, trivial⟩
 trivial (by as_aux_lemma => kernel_rfl) hk
/-! ### (*intrusion/content.search).from$1 -/
def content_search_from_1_v (t0 t1 t2 t3 : Addr) (Q : QT) (h : Heap) : Prop :=
 ldP h t0 fun t6 => ldS h t1 fun t7_0 => ldB h (Addr.add t1 1) fun t7_1 => ldB h (Addr.add t1 2) fun t7_2 => ldB h (Addr.add t1 3) fun t7_3 => ldI h (Addr.add t1 4) .i64 fun t7_4 => ldI h (Addr.add t1 5) .i64 fun t7_5 => ldB h (Addr.add t1 6) fun t7_6 => ldI h t2 .i64 fun t8 => CallT Try.prog fn_content_search_compare #[.pointer t6, .agg #[.string t7_0, .bool t7_1, .bool t7_2, .bool t7_3, .int .i64 t7_4, .int .i64 t7_5, .bool t7_6], .int .i64 t8] h fun v h1 => ∃ t9 : Bool, v = .bool t9 ∧ if (!t9) = true then (Q (.tuple #[.int .i64 0, .bool false]) h1) else (ldB h1 (Addr.add t1 2) fun t12 => if t12 = true then (Q (.tuple #[.int .i64 0, .bool true]) h1) else (ldP h1 t0 fun t13 => ldI h1 t3 .i64 fun t14 => ldI h1 t2 .i64 fun t16 => ldS h1 t1 fun t18 => CallT Try.prog fn_content_search_from #[.pointer t13, .int .i64 (wrap .i64 (t14 + 1)), .int .i64 (wrap .i64 (t16 + ((t18.size : Nat) : Int)))] h1 fun v h2 => ∃ t21_0 : Int, ∃ t21_1 : Bool, v = .tuple #[.int .i64 t21_0, .bool t21_1] ∧ Q (.tuple #[.int .i64 t21_0, .bool t21_1]) h2))
set_option maxRecDepth 100000 in
theorem content_search_from_1_s (t0 t1 t2 t3 : Addr) {Q : QT} {h : Heap} (hk : content_search_from_1_v t0 t1 t2 t3 Q h) : CallT Try.prog fn_content_search_from_1 #[.pointer (some t0), .pointer (some t1), .pointer (some t2), .pointer (some t3)] h Q :=
 callU follows Try.func61 (Try.call61 _) rfl rfl [] []
 trivial
 trivial (by as_aux_lemma => kernel_rfl) hk
/-! ### (*intrusion/content.search).compare -/
def content_search_compare_v (s_0 : Option Addr) (c_1_0 : ByteArray) (c_1_1 c_1_2 c_1_3 : Bool) (c_1_4 c_1_5 : Int) (c_1_6 : Bool) (at_2 : Int) (Q : QT) (h : Heap) : Prop :=
 alV h (.cells #[.string c_1_0, .bool c_1_1, .bool c_1_2, .bool c_1_3, .int .i64 c_1_4, .int .i64 c_1_5, .bool c_1_6] T_api_Content) fun t4 h1 => nn s_0 fun t8 => ldI h1 (Addr.add t8 4) .i64 fun t10 => nn s_0 fun t12 => ldI h1 (Addr.add t12 3) .i64 fun t14 => if (decide (t10 ≥ t14)) = true then (nn s_0 fun t17 => st1 h1 (Addr.add t17 5) (.bool true) fun h2 => Q (.bool false) h2) else (nn s_0 fun t20 => ldI h1 (Addr.add t20 4) .i64 fun t22 => nn s_0 fun t24 => st1 h1 (Addr.add t24 4) (.int .i64 (wrap .i64 (t22 + 1))) fun h3 => ldS h3 t4 fun t26_0 => ldB h3 (Addr.add t4 1) fun t26_1 => ldB h3 (Addr.add t4 2) fun t26_2 => ldB h3 (Addr.add t4 3) fun t26_3 => ldI h3 (Addr.add t4 4) .i64 fun t26_4 => ldI h3 (Addr.add t4 5) .i64 fun t26_5 => ldB h3 (Addr.add t4 6) fun t26_6 => nn s_0 fun t28 => ldS h3 (Addr.add t28 2) fun t30 => CallT Try.prog fn_content_At #[.agg #[.string t26_0, .bool t26_1, .bool t26_2, .bool t26_3, .int .i64 t26_4, .int .i64 t26_5, .bool t26_6], .string t30, .int .i64 at_2] h3 fun v h4 => ∃ t32 : Bool, v = .bool t32 ∧ Q (.bool t32) h4)
set_option maxRecDepth 100000 in
theorem content_search_compare_s (s_0 : Option Addr) (c_1_0 : ByteArray) (c_1_1 c_1_2 c_1_3 : Bool) (c_1_4 c_1_5 : Int) (c_1_6 : Bool) (at_2 : Int) {Q : QT} {h : Heap} (hk : content_search_compare_v s_0 c_1_0 c_1_1 c_1_2 c_1_3 c_1_4 c_1_5 c_1_6 at_2 Q h) : CallT Try.prog fn_content_search_compare #[.pointer s_0, .agg #[.string c_1_0, .bool c_1_1, .bool c_1_2, .bool c_1_3, .int .i64 c_1_4, .int .i64 c_1_5, .bool c_1_6], .int .i64 at_2] h Q :=
 callU follows Try.func62 (Try.call62 _) rfl rfl [] []
 trivial
 trivial (by as_aux_lemma => kernel_rfl) hk
/-! ### intrusion/automaton.small -/
def automaton_small_v (c_0 : Int) (Q : QT) (h : Heap) : Prop :=
 if (decide (65 ≤ c_0)) = true then (if (decide (c_0 ≤ 90)) = true then (Q (.int .u8 (wrap .u8 ((wrap .u8 (c_0 + 97)) - 65))) h) else (Q (.int .u8 c_0) h)) else (Q (.int .u8 c_0) h)
set_option maxRecDepth 100000 in
theorem automaton_small_s (c_0 : Int) {Q : QT} {h : Heap} (hk : automaton_small_v c_0 Q h) : CallT Try.prog fn_automaton_small #[.int .u8 c_0] h Q :=
 callU follows Try.func63 (Try.call63 _) rfl rfl [] []
 trivial
 trivial (by as_aux_lemma => kernel_rfl) hk
/-! ### internal/stringslite.HasSuffix -/
def internal_stringslite_HasSuffix_v (s_0 suffix_1 : ByteArray) (Q : QT) (h : Heap) : Prop :=
 if (decide (((s_0.size : Nat) : Int) ≥ ((suffix_1.size : Nat) : Int))) = true then (sliceStr s_0 (some (wrap .i64 (((s_0.size : Nat) : Int) - ((suffix_1.size : Nat) : Int)))) none fun t17 => Q (.bool (t17.toList == suffix_1.toList)) h) else (Q (.bool false) h)
set_option maxRecDepth 100000 in
theorem internal_stringslite_HasSuffix_s (s_0 suffix_1 : ByteArray) {Q : QT} {h : Heap} (hk : internal_stringslite_HasSuffix_v s_0 suffix_1 Q h) : CallT Try.prog fn_internal_stringslite_HasSuffix #[.string s_0, .string suffix_1] h Q :=
 callU follows Try.func64 (Try.call64 _) rfl rfl [] []
 trivial
 trivial (by as_aux_lemma => kernel_rfl) hk
/-! ### intrusion/intrusionref04.Letter -/
def ref04_Letter_v (c_0 : Int) (Q : QT) (h : Heap) : Prop :=
 if (decide (c_0 ≥ 97)) = true then (if (decide (c_0 ≤ 122)) = true then (Q (.bool true) h) else (if (decide (c_0 ≥ 65)) = true then (Q (.bool (decide (c_0 ≤ 90))) h) else (Q (.bool false) h))) else (if (decide (c_0 ≥ 65)) = true then (Q (.bool (decide (c_0 ≤ 90))) h) else (Q (.bool false) h))
set_option maxRecDepth 100000 in
theorem ref04_Letter_s (c_0 : Int) {Q : QT} {h : Heap} (hk : ref04_Letter_v c_0 Q h) : CallT Try.prog fn_ref04_Letter #[.int .u8 c_0] h Q :=
 callU follows Try.func65 (Try.call65 _) rfl rfl [] []
 trivial
 trivial (by as_aux_lemma => kernel_rfl) hk
/-! ### intrusion/intrusionref04.inName -/
def ref04_inName_v (c_0 : Int) (Q : QT) (h : Heap) : Prop :=
 CallT Try.prog fn_ref04_Letter #[.int .u8 c_0] h fun v h1 => ∃ t4 : Bool, v = .bool t4 ∧ if t4 = true then (Q (.bool true) h1) else (CallT Try.prog fn_ref04_Digit #[.int .u8 c_0] h1 fun v h2 => ∃ t7 : Bool, v = .bool t7 ∧ if t7 = true then (Q (.bool true) h2) else (Q (.bool (c_0 == 95)) h2))
set_option maxRecDepth 100000 in
theorem ref04_inName_s (c_0 : Int) {Q : QT} {h : Heap} (hk : ref04_inName_v c_0 Q h) : CallT Try.prog fn_ref04_inName #[.int .u8 c_0] h Q :=
 callU follows Try.func66 (Try.call66 _) rfl rfl [] []
 trivial
 trivial (by as_aux_lemma => kernel_rfl) hk
/-! ### intrusion/intrusionref43.port -/
def ref43_port_v (t_0_0 : Bool) (t_0_1 : ByteArray) (t_0_2 t_0_3 : Int) (Q : QT) (h : Heap) : Prop :=
 alV h (.cells #[.bool t_0_0, .string t_0_1, .int .i64 t_0_2, .int .i64 t_0_3] T_api_PortTerm) fun t1 h1 => ldS h1 (Addr.add t1 1) fun t4 => if (!(t4.toList == (⟨#[]⟩ : ByteArray).toList)) = true then (Q (.bool true) h1) else (ldI h1 (Addr.add t1 2) .i64 fun t8 => if (decide (t8 ≥ 0)) = true then (ldI h1 (Addr.add t1 2) .i64 fun t12 => ldI h1 (Addr.add t1 3) .i64 fun t14 => if (decide (t12 ≤ t14)) = true then (ldI h1 (Addr.add t1 3) .i64 fun t19 => Q (.bool (decide (t19 ≤ 65535))) h1) else (Q (.bool false) h1)) else (Q (.bool false) h1))
set_option maxRecDepth 100000 in
theorem ref43_port_s (t_0_0 : Bool) (t_0_1 : ByteArray) (t_0_2 t_0_3 : Int) {Q : QT} {h : Heap} (hk : ref43_port_v t_0_0 t_0_1 t_0_2 t_0_3 Q h) : CallT Try.prog fn_ref43_port #[.agg #[.bool t_0_0, .string t_0_1, .int .i64 t_0_2, .int .i64 t_0_3]] h Q :=
 callU follows Try.func67 (Try.call67 _) rfl rfl [] []
 trivial
 trivial (by as_aux_lemma => kernel_rfl) hk
/-! ### intrusion/intrusionref06.Valid -/
def ref06_Valid_v (a_0_0 : Bool) (a_0_1 a_0_2 : Int) (Q : QT) (h : Heap) : Prop :=
 alV h (.cells #[.bool a_0_0, .int .u64 a_0_1, .int .u64 a_0_2] T_api_Addr) fun t1 h1 => ldB h1 t1 fun t4 => if t4 = true then (Q (.bool true) h1) else (ldI h1 (Addr.add t1 1) .u64 fun t7 => if (t7 == 0) = true then (ldI h1 (Addr.add t1 2) .u64 fun t11 => Q (.bool (decide (t11 < 4294967296))) h1) else (Q (.bool false) h1))
set_option maxRecDepth 100000 in
theorem ref06_Valid_s (a_0_0 : Bool) (a_0_1 a_0_2 : Int) {Q : QT} {h : Heap} (hk : ref06_Valid_v a_0_0 a_0_1 a_0_2 Q h) : CallT Try.prog fn_ref06_Valid #[.agg #[.bool a_0_0, .int .u64 a_0_1, .int .u64 a_0_2]] h Q :=
 callU follows Try.func68 (Try.call68 _) rfl rfl [] []
 trivial
 trivial (by as_aux_lemma => kernel_rfl) hk
/-! ### intrusion/intrusionref06.Width -/
def ref06_Width_v (a_0_0 : Bool) (a_0_1 a_0_2 : Int) (Q : QT) (h : Heap) : Prop :=
 alV h (.cells #[.bool a_0_0, .int .u64 a_0_1, .int .u64 a_0_2] T_api_Addr) fun t1 h1 => ldB h1 t1 fun t4 => if t4 = true then (Q (.int .i64 128) h1) else (Q (.int .i64 32) h1)
set_option maxRecDepth 100000 in
theorem ref06_Width_s (a_0_0 : Bool) (a_0_1 a_0_2 : Int) {Q : QT} {h : Heap} (hk : ref06_Width_v a_0_0 a_0_1 a_0_2 Q h) : CallT Try.prog fn_ref06_Width #[.agg #[.bool a_0_0, .int .u64 a_0_1, .int .u64 a_0_2]] h Q :=
 callU follows Try.func69 (Try.call69 _) rfl rfl [] []
 trivial
 trivial (by as_aux_lemma => kernel_rfl) hk
/-! ### intrusion/intrusionref06.with -/
def ref06_with_b2 (a_3 t6 : Addr) (Q : QT) (h : Heap) : Prop :=
 ldB h a_3 fun t51_0 => ldI h (Addr.add a_3 1) .u64 fun t51_1 => ldI h (Addr.add a_3 2) .u64 fun t51_2 => stN h t6 [.bool t51_0, .int .u64 t51_1, .int .u64 t51_2] 0 fun h8 => ldB h8 t6 fun r0_0 => ldI h8 (Addr.add t6 1) .u64 fun r0_1 => ldI h8 (Addr.add t6 2) .u64 fun r0_2 => Q (.agg #[.bool r0_0, .int .u64 r0_1, .int .u64 r0_2]) h8
def ref06_with_l1 (one_2 : Bool) (a_3 t6 : Addr) (Q : QT) (i_7 : Int) (h : Heap) (Kn1 : Int → Heap → Prop) : Prop :=
 ldB h a_3 fun t10_0 => ldI h (Addr.add a_3 1) .u64 fun t10_1 => ldI h (Addr.add a_3 2) .u64 fun t10_2 => CallT Try.prog fn_ref06_Width #[.agg #[.bool t10_0, .int .u64 t10_1, .int .u64 t10_2]] h fun v h3 => ∃ t11 : Int, v = .int .i64 t11 ∧ if (decide (i_7 < t11)) = true then (ldB h3 a_3 fun t15_0 => ldI h3 (Addr.add a_3 1) .u64 fun t15_1 => ldI h3 (Addr.add a_3 2) .u64 fun t15_2 => CallT Try.prog fn_ref06_Bit #[.agg #[.bool t15_0, .int .u64 t15_1, .int .u64 t15_2], .int .i64 i_7] h3 fun v h4 => ∃ t17 : Bool, v = .bool t17 ∧ if (t17 == one_2) = true then (Kn1 (wrap .i64 (i_7 + 1)) h4) else (ldB h4 a_3 fun t30 => if (!t30) = true then (ldI h4 (Addr.add a_3 2) .u64 fun t33 => 0 ≤ (wrap .u64 (wrap .i64 (31 - i_7))) ∧ st1 h4 (Addr.add a_3 2) (.int .u64 (wrap .u64 (BitVec.toNat (BitVec.ofInt (IntKind.bits .u64) t33 ^^^ BitVec.ofInt (IntKind.bits .u64) (wrap .u64 (1 * 2 ^ (min (Int.toNat (wrap .u64 (wrap .i64 (31 - i_7)))) (IntKind.bits .u64))))) : Int))) fun h5 => Kn1 (wrap .i64 (i_7 + 1)) h5) else (if (decide (i_7 < 64)) = true then (ldI h4 (Addr.add a_3 1) .u64 fun t44 => 0 ≤ (wrap .u64 (wrap .i64 (63 - i_7))) ∧ st1 h4 (Addr.add a_3 1) (.int .u64 (wrap .u64 (BitVec.toNat (BitVec.ofInt (IntKind.bits .u64) t44 ^^^ BitVec.ofInt (IntKind.bits .u64) (wrap .u64 (1 * 2 ^ (min (Int.toNat (wrap .u64 (wrap .i64 (63 - i_7)))) (IntKind.bits .u64))))) : Int))) fun h6 => Kn1 (wrap .i64 (i_7 + 1)) h6) else (ldI h4 (Addr.add a_3 2) .u64 fun t21 => 0 ≤ (wrap .u64 (wrap .i64 (127 - i_7))) ∧ st1 h4 (Addr.add a_3 2) (.int .u64 (wrap .u64 (BitVec.toNat (BitVec.ofInt (IntKind.bits .u64) t21 ^^^ BitVec.ofInt (IntKind.bits .u64) (wrap .u64 (1 * 2 ^ (min (Int.toNat (wrap .u64 (wrap .i64 (127 - i_7)))) (IntKind.bits .u64))))) : Int))) fun h7 => Kn1 (wrap .i64 (i_7 + 1)) h7)))) else (ref06_with_b2 a_3 t6 Q h3)
def ref06_with_v (a_0_0 : Bool) (a_0_1 a_0_2 from_1 : Int) (one_2 : Bool) (Q : QT) (h : Heap) : Prop :=
 alV h (.cells #[.bool a_0_0, .int .u64 a_0_1, .int .u64 a_0_2] T_api_Addr) fun t3 h1 => alV h1 (.cells #[.bool false, .int .u64 0, .int .u64 0] T_api_Addr) fun t6 h2 => LoopV (fun (s : Int) h Kn => ref06_with_l1 one_2 t3 t6 Q s h Kn) from_1 h2
set_option maxRecDepth 100000 in
theorem ref06_with_s (a_0_0 : Bool) (a_0_1 a_0_2 from_1 : Int) (one_2 : Bool) {Q : QT} {h : Heap} (hk : ref06_with_v a_0_0 a_0_1 a_0_2 from_1 one_2 Q h) : CallT Try.prog fn_ref06_with #[.agg #[.bool a_0_0, .int .u64 a_0_1, .int .u64 a_0_2], .int .i64 from_1, .bool one_2] h Q :=
 callU follows Try.func70 (Try.call70 _) rfl rfl [(22, fun e h => dA (e 3) fun a_3 => dA (e 6) fun t6 => ref06_with_b2 a_3 t6 Q h)] [(6, fun e h => dB (e 2) fun one_2 => dA (e 3) fun a_3 => dA (e 6) fun t6 => dI .i64 (e 7) fun i_7 => LoopV (fun (s : Int) h Kn => ref06_with_l1 one_2 a_3 t6 Q s h Kn) i_7 h)]
 ⟨fun e h _ hk => by
 have F := Ag.nil (e := e)
 have ⟨a_3, F, hk⟩ := eA F hk
 have ⟨t6, F, hk⟩ := eA F hk
 exact cutU F (by as_aux_lemma => kernel_rfl) hk, trivial⟩
 ⟨⟨by kernel_rfl, fun e h he hk => by
 have F := Ag.nil (e := e)
 have ⟨one_2, F, hk⟩ := eB F hk
 have ⟨a_3, F, hk⟩ := eA F hk
 have ⟨t6, F, hk⟩ := eA F hk
 have ⟨i_7, F, hk⟩ := eI F hk
 exact loopU (s0 := i_7) follows (fun _ h => by cases h) he F (fun s => [(7, .int .i64 s)]) (by kernel_rfl) (F.take 1) hk (fun Kn1 e h => dI .i64 (e 7) fun i_7 => Kn1 i_7 h) (fun Kn1 e h hk => by
  have F := Ag.nil (e := e)
  have ⟨i_7, F, hk⟩ := eI F hk
  exact ⟨i_7, F, hk⟩)
  (fun Kn1 => []) (fun Kn1 => [])
  (fun Kn1 => trivial)
  (fun Kn1 => trivial) (fun e s h Kn1 => by as_aux_lemma => kernel_rfl)⟩, trivial⟩ (by as_aux_lemma => kernel_rfl) hk
/-! ### intrusion/content.At -/
def content_At_l1 (c_3 : Addr) (part_7 : ByteArray) (t43 : Int) (Q : QT) (t44 : Int) (h : Heap) (Kn1 : Int → Heap → Prop) : Prop :=
 if (decide (t44 < t43)) = true then (idxS part_7 t44 fun t49 => ldS h c_3 fun t52 => idxS t52 t44 fun t54 => CallT Try.prog fn_content_small #[.int .u8 t49] h fun v h2 => ∃ t50 : Int, v = .int .u8 t50 ∧ (ldS h2 c_3 fun t952 => (.string t952 : Value) = .string t52) ∧ CallT Try.prog fn_content_small #[.int .u8 t54] h2 fun v h3 => ∃ t55 : Int, v = .int .u8 t55 ∧ if (t50 != t55) = true then (Q (.bool false) h3) else (Kn1 (wrap .i64 (t44 + 1)) h3)) else (Q (.bool true) h)
def content_At_v (c_0_0 : ByteArray) (c_0_1 c_0_2 c_0_3 : Bool) (c_0_4 c_0_5 : Int) (c_0_6 : Bool) (data_1 : ByteArray) (at_2 : Int) (Q : QT) (h : Heap) : Prop :=
 alV h (.cells #[.string c_0_0, .bool c_0_1, .bool c_0_2, .bool c_0_3, .int .i64 c_0_4, .int .i64 c_0_5, .bool c_0_6] T_api_Content) fun t3 h1 => if (decide (at_2 < 0)) = true then (Q (.bool false) h1) else (if (decide (at_2 > ((data_1.size : Nat) : Int))) = true then (Q (.bool false) h1) else (ldS h1 t3 fun t23 => if (decide ((wrap .i64 (((data_1.size : Nat) : Int) - at_2)) < ((t23.size : Nat) : Int))) = true then (Q (.bool false) h1) else (ldS h1 t3 fun t31 => sliceStr data_1 (some at_2) (some (wrap .i64 (at_2 + ((t31.size : Nat) : Int)))) fun t34 => ldB h1 (Addr.add t3 1) fun t36 => if (!t36) = true then (ldS h1 t3 fun t40 => Q (.bool (t34.toList == t40.toList)) h1) else (LoopV (fun (s : Int) h Kn => content_At_l1 t3 t34 ((t34.size : Nat) : Int) Q s h Kn) 0 h1))))
set_option maxRecDepth 100000 in
theorem content_At_s (c_0_0 : ByteArray) (c_0_1 c_0_2 c_0_3 : Bool) (c_0_4 c_0_5 : Int) (c_0_6 : Bool) (data_1 : ByteArray) (at_2 : Int) {Q : QT} {h : Heap} (hk : content_At_v c_0_0 c_0_1 c_0_2 c_0_3 c_0_4 c_0_5 c_0_6 data_1 at_2 Q h) : CallT Try.prog fn_content_At #[.agg #[.string c_0_0, .bool c_0_1, .bool c_0_2, .bool c_0_3, .int .i64 c_0_4, .int .i64 c_0_5, .bool c_0_6], .string data_1, .int .i64 at_2] h Q :=
 callU follows Try.func71 (Try.call71 _) rfl rfl [] [(16, fun e h => dA (e 3) fun c_3 => dS (e 7) fun part_7 => dI .i64 (e 43) fun t43 => dI .i64 (e 44) fun t44 => LoopV (fun (s : Int) h Kn => content_At_l1 c_3 part_7 t43 Q s h Kn) t44 h)]
 trivial
 ⟨⟨by kernel_rfl, fun e h he hk => by
 have F := Ag.nil (e := e)
 have ⟨c_3, F, hk⟩ := eA F hk
 have ⟨part_7, F, hk⟩ := eS F hk
 have ⟨t43, F, hk⟩ := eI F hk
 have ⟨t44, F, hk⟩ := eI F hk
 exact loopU (s0 := t44) follows (fun _ h => by cases h) he F (fun s => [(44, .int .i64 s)]) (by kernel_rfl) (F.take 1) hk (fun Kn1 e h => dI .i64 (e 44) fun t44 => Kn1 t44 h) (fun Kn1 e h hk => by
  have F := Ag.nil (e := e)
  have ⟨t44, F, hk⟩ := eI F hk
  exact ⟨t44, F, hk⟩)
  (fun Kn1 => []) (fun Kn1 => [])
  (fun Kn1 => trivial)
  (fun Kn1 => trivial) (fun e s h Kn1 => by as_aux_lemma => kernel_rfl)⟩, trivial⟩ (by as_aux_lemma => kernel_rfl) hk
/-! ### intrusion/intrusionref04.Digit -/
def ref04_Digit_v (c_0 : Int) (Q : QT) (h : Heap) : Prop :=
 if (decide (c_0 ≥ 48)) = true then (Q (.bool (decide (c_0 ≤ 57))) h) else (Q (.bool false) h)
set_option maxRecDepth 100000 in
theorem ref04_Digit_s (c_0 : Int) {Q : QT} {h : Heap} (hk : ref04_Digit_v c_0 Q h) : CallT Try.prog fn_ref04_Digit #[.int .u8 c_0] h Q :=
 callU follows Try.func72 (Try.call72 _) rfl rfl [] []
 trivial
 trivial (by as_aux_lemma => kernel_rfl) hk
/-! ### intrusion/intrusionref06.Bit -/
def ref06_Bit_v (a_0_0 : Bool) (a_0_1 a_0_2 i_1 : Int) (Q : QT) (h : Heap) : Prop :=
 alV h (.cells #[.bool a_0_0, .int .u64 a_0_1, .int .u64 a_0_2] T_api_Addr) fun t2 h1 => ldB h1 t2 fun t6 => if (!t6) = true then (ldI h1 (Addr.add t2 2) .u64 fun t9 => 0 ≤ (wrap .u64 (wrap .i64 (31 - i_1))) ∧ Q (.bool ((wrap .u64 (BitVec.toNat (BitVec.ofInt (IntKind.bits .u64) (Int.fdiv t9 (2 ^ (min (Int.toNat (wrap .u64 (wrap .i64 (31 - i_1)))) (IntKind.bits .u64)))) &&& BitVec.ofInt (IntKind.bits .u64) 1) : Int)) == 1)) h1) else (if (decide (i_1 < 64)) = true then (ldI h1 (Addr.add t2 1) .u64 fun t19 => 0 ≤ (wrap .u64 (wrap .i64 (63 - i_1))) ∧ Q (.bool ((wrap .u64 (BitVec.toNat (BitVec.ofInt (IntKind.bits .u64) (Int.fdiv t19 (2 ^ (min (Int.toNat (wrap .u64 (wrap .i64 (63 - i_1)))) (IntKind.bits .u64)))) &&& BitVec.ofInt (IntKind.bits .u64) 1) : Int)) == 1)) h1) else (ldI h1 (Addr.add t2 2) .u64 fun t27 => 0 ≤ (wrap .u64 (wrap .i64 (127 - i_1))) ∧ Q (.bool ((wrap .u64 (BitVec.toNat (BitVec.ofInt (IntKind.bits .u64) (Int.fdiv t27 (2 ^ (min (Int.toNat (wrap .u64 (wrap .i64 (127 - i_1)))) (IntKind.bits .u64)))) &&& BitVec.ofInt (IntKind.bits .u64) 1) : Int)) == 1)) h1))
set_option maxRecDepth 100000 in
theorem ref06_Bit_s (a_0_0 : Bool) (a_0_1 a_0_2 i_1 : Int) {Q : QT} {h : Heap} (hk : ref06_Bit_v a_0_0 a_0_1 a_0_2 i_1 Q h) : CallT Try.prog fn_ref06_Bit #[.agg #[.bool a_0_0, .int .u64 a_0_1, .int .u64 a_0_2], .int .i64 i_1] h Q :=
 callU follows Try.func73 (Try.call73 _) rfl rfl [] []
 trivial
 trivial (by as_aux_lemma => kernel_rfl) hk
/-! ### intrusion/content.small -/
def content_small_v (c_0 : Int) (Q : QT) (h : Heap) : Prop :=
 if (decide (c_0 ≥ 65)) = true then (if (decide (c_0 ≤ 90)) = true then (Q (.int .u8 (wrap .u8 ((wrap .u8 (c_0 + 97)) - 65))) h) else (Q (.int .u8 c_0) h)) else (Q (.int .u8 c_0) h)
set_option maxRecDepth 100000 in
theorem content_small_s (c_0 : Int) {Q : QT} {h : Heap} (hk : content_small_v c_0 Q h) : CallT Try.prog fn_content_small #[.int .u8 c_0] h Q :=
 callU follows Try.func74 (Try.call74 _) rfl rfl [] []
 trivial
 trivial (by as_aux_lemma => kernel_rfl) hk
end Go.Proofs.Ytjelnknmjhceiaa
