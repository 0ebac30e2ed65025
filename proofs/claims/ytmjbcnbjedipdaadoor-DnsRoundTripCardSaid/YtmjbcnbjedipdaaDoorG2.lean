/-
  Printed by wip/tool/gen2.py: verification conditions, and the proof that each suffices.
-/
import Derived.Test.YtmjbcnbjedipdaaDoorG1
namespace Go.Proofs.YtmjbcnbjedipdaaDoor
set_option linter.unusedSimpArgs false
set_option linter.unusedVariables false
set_option maxRecDepth 20000
open Go IntKind
variable [Gh]
/-! ### intrusion/intrusionref26.strip -/
def ref26_strip_l1 (s_0 : ByteArray) (Q : QT) (out_3a : Option Addr) (out_3n out_3c : Nat) (i_4 : Int) (h : Heap) (Kn1 : (Option Addr) × Nat × Nat × Int → Heap → Prop) : Prop :=
 if (decide (i_4 < ((s_0.size : Nat) : Int))) = true then (idxS s_0 i_4 fun t14 => if (t14 != 9) = true then (idxS s_0 i_4 fun t19 => if (t19 != 10) = true then (idxS s_0 i_4 fun t25 => if (t25 != 13) = true then (idxS s_0 i_4 fun t31 => if (t31 != 32) = true then (idxS s_0 i_4 fun t37 => alV h (.cells #[.int .u8 t37] T_uint8) fun t38 h2 => bltV Tryd.prog .append #[T_sl_uint8, T_sl_uint8] T_sl_uint8 #[false, false] #[.slice out_3a out_3n out_3c, .slice (some t38) 1 1] h2 fun v h3 => ∃ t39a : Option Addr, ∃ t39n : Nat, ∃ t39c : Nat, v = .slice t39a t39n t39c ∧ Kn1 (t39a, t39n, t39c, wrap .i64 (i_4 + 1)) h3) else (Kn1 (out_3a, out_3n, out_3c, wrap .i64 (i_4 + 1)) h)) else (Kn1 (out_3a, out_3n, out_3c, wrap .i64 (i_4 + 1)) h)) else (Kn1 (out_3a, out_3n, out_3c, wrap .i64 (i_4 + 1)) h)) else (Kn1 (out_3a, out_3n, out_3c, wrap .i64 (i_4 + 1)) h)) else (convV Tryd.prog T_sl_uint8 T_string (.slice out_3a out_3n out_3c) h fun v h4 => ∃ t41 : ByteArray, v = .string t41 ∧ Q (.string t41) h4)
def ref26_strip_v (s_0 : ByteArray) (Q : QT) (h : Heap) : Prop :=
 alV h (.cells #[] T_uint8) fun t5 h1 => LoopV (fun (s : (Option Addr) × Nat × Nat × Int) h Kn => ref26_strip_l1 s_0 Q s.1 s.2.1 s.2.2.1 s.2.2.2 h Kn) (some t5, 0, 0, 0) h1
set_option maxRecDepth 100000 in
theorem ref26_strip_s (s_0 : ByteArray) {Q : QT} {h : Heap} (hk : ref26_strip_v s_0 Q h) : CallT Tryd.prog fn_ref26_strip #[.string s_0] h Q :=
 callU follows Tryd.func81 (Tryd.call81 _) rfl rfl [] [(8, fun e h => dS (e 0) fun s_0 => dL (e 3) fun out_3a out_3n out_3c => dI .i64 (e 4) fun i_4 => LoopV (fun (s : (Option Addr) × Nat × Nat × Int) h Kn => ref26_strip_l1 s_0 Q s.1 s.2.1 s.2.2.1 s.2.2.2 h Kn) (out_3a, out_3n, out_3c, i_4) h)]
 trivial
 ⟨⟨by kernel_rfl, fun e h he hk => by
 have F := Ag.nil (e := e)
 have ⟨s_0, F, hk⟩ := eS F hk
 have ⟨out_3a, out_3n, out_3c, F, hk⟩ := eL F hk
 have ⟨i_4, F, hk⟩ := eI F hk
 exact loopU (s0 := (out_3a, out_3n, out_3c, i_4)) follows (fun _ h => by cases h) he F (fun s => [(4, .int .i64 s.2.2.2), (3, .slice s.1 s.2.1 s.2.2.1)]) (by kernel_rfl) (F.take 2) hk (fun Kn1 e h => dL (e 3) fun out_3a out_3n out_3c => dI .i64 (e 4) fun i_4 => Kn1 (out_3a, out_3n, out_3c, i_4) h) (fun Kn1 e h hk => by
  have F := Ag.nil (e := e)
  have ⟨out_3a, out_3n, out_3c, F, hk⟩ := eL F hk
  have ⟨i_4, F, hk⟩ := eI F hk
  exact ⟨(out_3a, out_3n, out_3c, i_4), F, hk⟩)
  (fun Kn1 => []) (fun Kn1 => [])
  (fun Kn1 => trivial)
  (fun Kn1 => trivial) (fun e s h Kn1 => by as_aux_lemma => kernel_rfl)⟩, trivial⟩ (by as_aux_lemma => kernel_rfl) hk
/-! ### intrusion/intrusionref26.percent -/
def ref26_percent_b2 (s_0 : ByteArray) (out_3a : Option Addr) (out_3n out_3c : Nat) (i_4 : Int) (Q : QT) (Kn1 : (Option Addr) × Nat × Nat × Int → Heap → Prop) (h : Heap) : Prop :=
 idxS s_0 i_4 fun t60 => alV h (.cells #[.int .u8 t60] T_uint8) fun t61 h9 => bltV Tryd.prog .append #[T_sl_uint8, T_sl_uint8] T_sl_uint8 #[false, false] #[.slice out_3a out_3n out_3c, .slice (some t61) 1 1] h9 fun v h10 => ∃ t62a : Option Addr, ∃ t62n : Nat, ∃ t62c : Nat, v = .slice t62a t62n t62c ∧ Kn1 (t62a, t62n, t62c, wrap .i64 (i_4 + 1)) h10
def ref26_percent_l1 (s_0 : ByteArray) (Q : QT) (out_3a : Option Addr) (out_3n out_3c : Nat) (i_4 : Int) (h : Heap) (Kn1 : (Option Addr) × Nat × Nat × Int → Heap → Prop) : Prop :=
 if (decide (i_4 < ((s_0.size : Nat) : Int))) = true then (idxS s_0 i_4 fun t14 => if (t14 == 37) = true then (if (decide ((wrap .i64 (i_4 + 2)) < ((s_0.size : Nat) : Int))) = true then (idxS s_0 (wrap .i64 (i_4 + 1)) fun t27 => CallT Tryd.prog fn_ref26_digit #[.int .u8 t27] h fun v h2 => ∃ t28 : Int, v = .int .i64 t28 ∧ if (decide (t28 ≥ 0)) = true then (idxS s_0 (wrap .i64 (i_4 + 2)) fun t35 => CallT Tryd.prog fn_ref26_digit #[.int .u8 t35] h2 fun v h3 => ∃ t36 : Int, v = .int .i64 t36 ∧ if (decide (t36 ≥ 0)) = true then (idxS s_0 (wrap .i64 (i_4 + 1)) fun t43 => idxS s_0 (wrap .i64 (i_4 + 2)) fun t49 => CallT Tryd.prog fn_ref26_digit #[.int .u8 t43] h3 fun v h4 => ∃ t44 : Int, v = .int .i64 t44 ∧ CallT Tryd.prog fn_ref26_digit #[.int .u8 t49] h4 fun v h5 => ∃ t50 : Int, v = .int .i64 t50 ∧ alV h5 (.cells #[.int .u8 (wrap .u8 (wrap .i64 ((wrap .i64 (t44 * 16)) + t50)))] T_uint8) fun t53 h6 => bltV Tryd.prog .append #[T_sl_uint8, T_sl_uint8] T_sl_uint8 #[false, false] #[.slice out_3a out_3n out_3c, .slice (some t53) 1 1] h6 fun v h7 => ∃ t54a : Option Addr, ∃ t54n : Nat, ∃ t54c : Nat, v = .slice t54a t54n t54c ∧ Kn1 (t54a, t54n, t54c, wrap .i64 ((wrap .i64 (i_4 + 2)) + 1)) h7) else (ref26_percent_b2 s_0 out_3a out_3n out_3c i_4 Q Kn1 h3)) else (ref26_percent_b2 s_0 out_3a out_3n out_3c i_4 Q Kn1 h2)) else (ref26_percent_b2 s_0 out_3a out_3n out_3c i_4 Q Kn1 h)) else (ref26_percent_b2 s_0 out_3a out_3n out_3c i_4 Q Kn1 h)) else (convV Tryd.prog T_sl_uint8 T_string (.slice out_3a out_3n out_3c) h fun v h8 => ∃ t64 : ByteArray, v = .string t64 ∧ Q (.string t64) h8)
def ref26_percent_v (s_0 : ByteArray) (Q : QT) (h : Heap) : Prop :=
 alV h (.cells #[] T_uint8) fun t5 h1 => LoopV (fun (s : (Option Addr) × Nat × Nat × Int) h Kn => ref26_percent_l1 s_0 Q s.1 s.2.1 s.2.2.1 s.2.2.2 h Kn) (some t5, 0, 0, 0) h1
set_option maxRecDepth 100000 in
theorem ref26_percent_s (s_0 : ByteArray) {Q : QT} {h : Heap} (hk : ref26_percent_v s_0 Q h) : CallT Tryd.prog fn_ref26_percent #[.string s_0] h Q :=
 callU follows Tryd.func82 (Tryd.call82 _) rfl rfl [] [(8, fun e h => dS (e 0) fun s_0 => dL (e 3) fun out_3a out_3n out_3c => dI .i64 (e 4) fun i_4 => LoopV (fun (s : (Option Addr) × Nat × Nat × Int) h Kn => ref26_percent_l1 s_0 Q s.1 s.2.1 s.2.2.1 s.2.2.2 h Kn) (out_3a, out_3n, out_3c, i_4) h)]
 trivial
 ⟨⟨by kernel_rfl, fun e h he hk => by
 have F := Ag.nil (e := e)
 have ⟨s_0, F, hk⟩ := eS F hk
 have ⟨out_3a, out_3n, out_3c, F, hk⟩ := eL F hk
 have ⟨i_4, F, hk⟩ := eI F hk
 exact loopU (s0 := (out_3a, out_3n, out_3c, i_4)) follows (fun _ h => by cases h) he F (fun s => [(4, .int .i64 s.2.2.2), (3, .slice s.1 s.2.1 s.2.2.1)]) (by kernel_rfl) (F.take 2) hk (fun Kn1 e h => dL (e 3) fun out_3a out_3n out_3c => dI .i64 (e 4) fun i_4 => Kn1 (out_3a, out_3n, out_3c, i_4) h) (fun Kn1 e h hk => by
  have F := Ag.nil (e := e)
  have ⟨out_3a, out_3n, out_3c, F, hk⟩ := eL F hk
  have ⟨i_4, F, hk⟩ := eI F hk
  exact ⟨(out_3a, out_3n, out_3c, i_4), F, hk⟩)
  (fun Kn1 => [(18, fun e h => dS (e 0) fun s_0 => dL (e 3) fun out_3a out_3n out_3c => dI .i64 (e 4) fun i_4 => ref26_percent_b2 s_0 out_3a out_3n out_3c i_4 Q Kn1 h)]) (fun Kn1 => [])
  (fun Kn1 => ⟨fun e h _ hk => by
 have F := Ag.nil (e := e)
 have ⟨s_0, F, hk⟩ := eS F hk
 have ⟨out_3a, out_3n, out_3c, F, hk⟩ := eL F hk
 have ⟨i_4, F, hk⟩ := eI F hk
 exact cutU F (by as_aux_lemma => kernel_rfl) hk, trivial⟩)
  (fun Kn1 => trivial) (fun e s h Kn1 => by as_aux_lemma => kernel_rfl)⟩, trivial⟩ (by as_aux_lemma => kernel_rfl) hk
/-! ### intrusion/intrusionref26.base64 -/
def ref26_base64_b3 (s_0 : ByteArray) (out_3a : Option Addr) (out_3n out_3c : Nat) (bits_4 n_5 i_6 v_7 : Int) (Q : QT) (Kn1 : (Option Addr) × Nat × Nat × Int × Int × Int → Heap → Prop) (h : Heap) : Prop :=
 if (decide (v_7 < 0)) = true then (Kn1 (out_3a, out_3n, out_3c, bits_4, n_5, wrap .i64 (i_6 + 1)) h) else (if (decide ((wrap .i64 (n_5 + 6)) ≥ 8)) = true then (0 ≤ (wrap .i64 ((wrap .i64 (n_5 + 6)) - 8)) ∧ alV h (.cells #[.int .u8 (wrap .u8 (Int.fdiv (wrap .i64 ((wrap .i64 (bits_4 * 64)) + v_7)) (2 ^ (min (Int.toNat (wrap .i64 ((wrap .i64 (n_5 + 6)) - 8))) (IntKind.bits .i64)))))] T_uint8) fun t50 h4 => bltV Tryd.prog .append #[T_sl_uint8, T_sl_uint8] T_sl_uint8 #[false, false] #[.slice out_3a out_3n out_3c, .slice (some t50) 1 1] h4 fun v h5 => ∃ t51a : Option Addr, ∃ t51n : Nat, ∃ t51c : Nat, v = .slice t51a t51n t51c ∧ 0 ≤ (wrap .i64 ((wrap .i64 (n_5 + 6)) - 8)) ∧ (wrap .i64 (1 * 2 ^ (min (Int.toNat (wrap .i64 ((wrap .i64 (n_5 + 6)) - 8))) (IntKind.bits .i64)))) ≠ 0 ∧ Kn1 (t51a, t51n, t51c, Int.tmod (wrap .i64 ((wrap .i64 (bits_4 * 64)) + v_7)) (wrap .i64 (1 * 2 ^ (min (Int.toNat (wrap .i64 ((wrap .i64 (n_5 + 6)) - 8))) (IntKind.bits .i64)))), wrap .i64 ((wrap .i64 (n_5 + 6)) - 8), wrap .i64 (i_6 + 1)) h5) else (Kn1 (out_3a, out_3n, out_3c, wrap .i64 ((wrap .i64 (bits_4 * 64)) + v_7), wrap .i64 (n_5 + 6), wrap .i64 (i_6 + 1)) h))
def ref26_base64_l2 (s_0 : ByteArray) (out_3a : Option Addr) (out_3n out_3c : Nat) (bits_4 n_5 i_6 : Int) (Q : QT) (Kn1 : (Option Addr) × Nat × Nat × Int × Int × Int → Heap → Prop) (v_7 k_8 : Int) (h : Heap) (Kn2 : Int × Int → Heap → Prop) : Prop :=
 if (decide (k_8 < 64)) = true then (idxS (⟨#[65, 66, 67, 68, 69, 70, 71, 72, 73, 74, 75, 76, 77, 78, 79, 80, 81, 82, 83, 84, 85, 86, 87, 88, 89, 90, 97, 98, 99, 100, 101, 102, 103, 104, 105, 106, 107, 108, 109, 110, 111, 112, 113, 114, 115, 116, 117, 118, 119, 120, 121, 122, 48, 49, 50, 51, 52, 53, 54, 55, 56, 57, 43, 47]⟩ : ByteArray) k_8 fun t27 => idxS s_0 i_6 fun t30 => if (t27 == t30) = true then (Kn2 (k_8, wrap .i64 (k_8 + 1)) h) else (Kn2 (v_7, wrap .i64 (k_8 + 1)) h)) else (ref26_base64_b3 s_0 out_3a out_3n out_3c bits_4 n_5 i_6 v_7 Q Kn1 h)
def ref26_base64_l1 (s_0 : ByteArray) (Q : QT) (out_3a : Option Addr) (out_3n out_3c : Nat) (bits_4 n_5 i_6 : Int) (h : Heap) (Kn1 : (Option Addr) × Nat × Nat × Int × Int × Int → Heap → Prop) : Prop :=
 if (decide (i_6 < ((s_0.size : Nat) : Int))) = true then (idxS s_0 i_6 fun t17 => if (t17 != 61) = true then (LoopV (fun (s : Int × Int) h Kn => ref26_base64_l2 s_0 out_3a out_3n out_3c bits_4 n_5 i_6 Q Kn1 s.1 s.2 h Kn) ((-1), 0) h) else (convV Tryd.prog T_sl_uint8 T_string (.slice out_3a out_3n out_3c) h fun v h2 => ∃ t57 : ByteArray, v = .string t57 ∧ Q (.string t57) h2)) else (convV Tryd.prog T_sl_uint8 T_string (.slice out_3a out_3n out_3c) h fun v h3 => ∃ t57 : ByteArray, v = .string t57 ∧ Q (.string t57) h3)
def ref26_base64_v (s_0 : ByteArray) (Q : QT) (h : Heap) : Prop :=
 alV h (.cells #[] T_uint8) fun t9 h1 => LoopV (fun (s : (Option Addr) × Nat × Nat × Int × Int × Int) h Kn => ref26_base64_l1 s_0 Q s.1 s.2.1 s.2.2.1 s.2.2.2.1 s.2.2.2.2.1 s.2.2.2.2.2 h Kn) (some t9, 0, 0, 0, 0, 0) h1
set_option maxRecDepth 100000 in
theorem ref26_base64_s (s_0 : ByteArray) {Q : QT} {h : Heap} (hk : ref26_base64_v s_0 Q h) : CallT Tryd.prog fn_ref26_base64 #[.string s_0] h Q :=
 callU follows Tryd.func83 (Tryd.call83 _) rfl rfl [] [(10, fun e h => dS (e 0) fun s_0 => dL (e 3) fun out_3a out_3n out_3c => dI .i64 (e 4) fun bits_4 => dI .i64 (e 5) fun n_5 => dI .i64 (e 6) fun i_6 => LoopV (fun (s : (Option Addr) × Nat × Nat × Int × Int × Int) h Kn => ref26_base64_l1 s_0 Q s.1 s.2.1 s.2.2.1 s.2.2.2.1 s.2.2.2.2.1 s.2.2.2.2.2 h Kn) (out_3a, out_3n, out_3c, bits_4, n_5, i_6) h)]
 trivial
 ⟨⟨by kernel_rfl, fun e h he hk => by
 have F := Ag.nil (e := e)
 have ⟨s_0, F, hk⟩ := eS F hk
 have ⟨out_3a, out_3n, out_3c, F, hk⟩ := eL F hk
 have ⟨bits_4, F, hk⟩ := eI F hk
 have ⟨n_5, F, hk⟩ := eI F hk
 have ⟨i_6, F, hk⟩ := eI F hk
 exact loopU (s0 := (out_3a, out_3n, out_3c, bits_4, n_5, i_6)) follows (fun _ h => by cases h) he F (fun s => [(6, .int .i64 s.2.2.2.2.2), (5, .int .i64 s.2.2.2.2.1), (4, .int .i64 s.2.2.2.1), (3, .slice s.1 s.2.1 s.2.2.1)]) (by kernel_rfl) (F.take 4) hk (fun Kn1 e h => dL (e 3) fun out_3a out_3n out_3c => dI .i64 (e 4) fun bits_4 => dI .i64 (e 5) fun n_5 => dI .i64 (e 6) fun i_6 => Kn1 (out_3a, out_3n, out_3c, bits_4, n_5, i_6) h) (fun Kn1 e h hk => by
  have F := Ag.nil (e := e)
  have ⟨out_3a, out_3n, out_3c, F, hk⟩ := eL F hk
  have ⟨bits_4, F, hk⟩ := eI F hk
  have ⟨n_5, F, hk⟩ := eI F hk
  have ⟨i_6, F, hk⟩ := eI F hk
  exact ⟨(out_3a, out_3n, out_3c, bits_4, n_5, i_6), F, hk⟩)
  (fun Kn1 => [(26, fun e h => dS (e 0) fun s_0 => dL (e 3) fun out_3a out_3n out_3c => dI .i64 (e 4) fun bits_4 => dI .i64 (e 5) fun n_5 => dI .i64 (e 6) fun i_6 => dI .i64 (e 7) fun v_7 => ref26_base64_b3 s_0 out_3a out_3n out_3c bits_4 n_5 i_6 v_7 Q Kn1 h)]) (fun Kn1 => [(18, fun e h => dS (e 0) fun s_0 => dL (e 3) fun out_3a out_3n out_3c => dI .i64 (e 4) fun bits_4 => dI .i64 (e 5) fun n_5 => dI .i64 (e 6) fun i_6 => dI .i64 (e 7) fun v_7 => dI .i64 (e 8) fun k_8 => LoopV (fun (s : Int × Int) h Kn => ref26_base64_l2 s_0 out_3a out_3n out_3c bits_4 n_5 i_6 Q Kn1 s.1 s.2 h Kn) (v_7, k_8) h)])
  (fun Kn1 => ⟨fun e h _ hk => by
 have F := Ag.nil (e := e)
 have ⟨s_0, F, hk⟩ := eS F hk
 have ⟨out_3a, out_3n, out_3c, F, hk⟩ := eL F hk
 have ⟨bits_4, F, hk⟩ := eI F hk
 have ⟨n_5, F, hk⟩ := eI F hk
 have ⟨i_6, F, hk⟩ := eI F hk
 have ⟨v_7, F, hk⟩ := eI F hk
 exact cutU F (by as_aux_lemma => kernel_rfl) hk, trivial⟩)
  (fun Kn1 => ⟨⟨by kernel_rfl, fun e h he hk => by
 have F := Ag.nil (e := e)
 have ⟨s_0, F, hk⟩ := eS F hk
 have ⟨out_3a, out_3n, out_3c, F, hk⟩ := eL F hk
 have ⟨bits_4, F, hk⟩ := eI F hk
 have ⟨n_5, F, hk⟩ := eI F hk
 have ⟨i_6, F, hk⟩ := eI F hk
 have ⟨v_7, F, hk⟩ := eI F hk
 have ⟨k_8, F, hk⟩ := eI F hk
 exact loopU (s0 := (v_7, k_8)) follows (keep_sub (by kernel_rfl)) he F (fun s => [(8, .int .i64 s.2), (7, .int .i64 s.1)]) (by kernel_rfl) (F.take 2) hk (fun Kn2 e h => dI .i64 (e 7) fun v_7 => dI .i64 (e 8) fun k_8 => Kn2 (v_7, k_8) h) (fun Kn2 e h hk => by
  have F := Ag.nil (e := e)
  have ⟨v_7, F, hk⟩ := eI F hk
  have ⟨k_8, F, hk⟩ := eI F hk
  exact ⟨(v_7, k_8), F, hk⟩)
  (fun Kn2 => []) (fun Kn2 => [])
  (fun Kn2 => trivial)
  (fun Kn2 => trivial) (fun e s h Kn2 => by as_aux_lemma => kernel_rfl)⟩, trivial⟩) (fun e s h Kn1 => by as_aux_lemma => kernel_rfl)⟩, trivial⟩ (by as_aux_lemma => kernel_rfl) hk
/-! ### intrusion/intrusionref26.path -/
def ref26_path_b4 (s_0 : ByteArray) (end_3 : Int) (l_5a : Option Addr) (l_5n l_5c : Nat) (kept_6a : Option Addr) (kept_6n kept_6c : Nat) (i_7 : Int) (Q : QT) (Kn3 : (Option Addr) × Nat × Nat × Int → Heap → Prop) (h : Heap) : Prop :=
 idxA i_7 l_5n (nn l_5a fun t53 => ldS h (Addr.add t53 ((i_7).toNat * 1)) fun t54 => if (!(t54.toList == (⟨#[]⟩ : ByteArray).toList)) = true then (idxA i_7 l_5n (nn l_5a fun t59 => ldS h (Addr.add t59 ((i_7).toNat * 1)) fun t60 => if (!(t60.toList == (⟨#[46]⟩ : ByteArray).toList)) = true then (idxA i_7 l_5n (nn l_5a fun t66 => ldS h (Addr.add t66 ((i_7).toNat * 1)) fun t67 => if (!(t67.toList == (⟨#[46, 46]⟩ : ByteArray).toList)) = true then (idxA i_7 l_5n (nn l_5a fun t73 => ldS h (Addr.add t73 ((i_7).toNat * 1)) fun t74 => alV h (.cells #[.string t74] T_string) fun t75 h3 => bltV Tryd.prog .append #[T_sl_string, T_sl_string] T_sl_string #[false, false] #[.slice kept_6a kept_6n kept_6c, .slice (some t75) 1 1] h3 fun v h4 => ∃ t76a : Option Addr, ∃ t76n : Nat, ∃ t76c : Nat, v = .slice t76a t76n t76c ∧ Kn3 (t76a, t76n, t76c, wrap .i64 (i_7 + 1)) h4)) else (Kn3 (kept_6a, kept_6n, kept_6c, wrap .i64 (i_7 + 1)) h))) else (Kn3 (kept_6a, kept_6n, kept_6c, wrap .i64 (i_7 + 1)) h))) else (Kn3 (kept_6a, kept_6n, kept_6c, wrap .i64 (i_7 + 1)) h))
def ref26_path_b7 (s_0 : ByteArray) (end_3 : Int) (l_5a : Option Addr) (l_5n l_5c : Nat) (kept_6a : Option Addr) (kept_6n kept_6c : Nat) (t_8 : ByteArray) (i_9 : Int) (Q : QT) (Kn6 : ByteArray × Int → Heap → Prop) (h : Heap) : Prop :=
 idxA i_9 kept_6n (nn kept_6a fun t95 => ldS h (Addr.add t95 ((i_9).toNat * 1)) fun t96 => ((t_8.size + t96.size : Nat) : Int) ≤ IntKind.max .i64 ∧ Kn6 (t_8 ++ t96, wrap .i64 (i_9 + 1)) h)
def ref26_path_b9 (s_0 : ByteArray) (end_3 : Int) (t_8 : ByteArray) (Q : QT) (h : Heap) : Prop :=
 sliceStr s_0 (some end_3) none fun t123 => ((t_8.size + t123.size : Nat) : Int) ≤ IntKind.max .i64 ∧ Q (.string (t_8 ++ t123)) h
def ref26_path_b8 (s_0 : ByteArray) (end_3 : Int) (l_5a : Option Addr) (l_5n l_5c : Nat) (t_8 : ByteArray) (Q : QT) (h : Heap) : Prop :=
 idxA (wrap .i64 (((l_5n : Nat) : Int) - 1)) l_5n (nn l_5a fun t102 => ldS h (Addr.add t102 (((wrap .i64 (((l_5n : Nat) : Int) - 1))).toNat * 1)) fun t103 => if (t_8.toList == (⟨#[]⟩ : ByteArray).toList) = true then (((t_8.size + (⟨#[47]⟩ : ByteArray).size : Nat) : Int) ≤ IntKind.max .i64 ∧ ref26_path_b9 s_0 end_3 (t_8 ++ (⟨#[47]⟩ : ByteArray)) Q h) else (if (t103.toList == (⟨#[]⟩ : ByteArray).toList) = true then (((t_8.size + (⟨#[47]⟩ : ByteArray).size : Nat) : Int) ≤ IntKind.max .i64 ∧ ref26_path_b9 s_0 end_3 (t_8 ++ (⟨#[47]⟩ : ByteArray)) Q h) else (if (t103.toList == (⟨#[46]⟩ : ByteArray).toList) = true then (((t_8.size + (⟨#[47]⟩ : ByteArray).size : Nat) : Int) ≤ IntKind.max .i64 ∧ ref26_path_b9 s_0 end_3 (t_8 ++ (⟨#[47]⟩ : ByteArray)) Q h) else (if (t103.toList == (⟨#[46, 46]⟩ : ByteArray).toList) = true then (((t_8.size + (⟨#[47]⟩ : ByteArray).size : Nat) : Int) ≤ IntKind.max .i64 ∧ ref26_path_b9 s_0 end_3 (t_8 ++ (⟨#[47]⟩ : ByteArray)) Q h) else (ref26_path_b9 s_0 end_3 t_8 Q h)))))
def ref26_path_l6 (s_0 : ByteArray) (end_3 : Int) (l_5a : Option Addr) (l_5n l_5c : Nat) (kept_6a : Option Addr) (kept_6n kept_6c : Nat) (Q : QT) (t_8 : ByteArray) (i_9 : Int) (h : Heap) (Kn6 : ByteArray × Int → Heap → Prop) : Prop :=
 if (decide (i_9 < ((kept_6n : Nat) : Int))) = true then (if (decide (i_9 > 0)) = true then (((t_8.size + (⟨#[47]⟩ : ByteArray).size : Nat) : Int) ≤ IntKind.max .i64 ∧ ref26_path_b7 s_0 end_3 l_5a l_5n l_5c kept_6a kept_6n kept_6c (t_8 ++ (⟨#[47]⟩ : ByteArray)) i_9 Q Kn6 h) else (idxS s_0 (0 : Int) fun t87 => if (t87 == 47) = true then (((t_8.size + (⟨#[47]⟩ : ByteArray).size : Nat) : Int) ≤ IntKind.max .i64 ∧ ref26_path_b7 s_0 end_3 l_5a l_5n l_5c kept_6a kept_6n kept_6c (t_8 ++ (⟨#[47]⟩ : ByteArray)) i_9 Q Kn6 h) else (ref26_path_b7 s_0 end_3 l_5a l_5n l_5c kept_6a kept_6n kept_6c t_8 i_9 Q Kn6 h))) else (ref26_path_b8 s_0 end_3 l_5a l_5n l_5c t_8 Q h)
def ref26_path_b5 (s_0 : ByteArray) (end_3 : Int) (l_5a : Option Addr) (l_5n l_5c : Nat) (kept_6a : Option Addr) (kept_6n kept_6c : Nat) (Q : QT) (h : Heap) : Prop :=
 LoopV (fun (s : ByteArray × Int) h Kn => ref26_path_l6 s_0 end_3 l_5a l_5n l_5c kept_6a kept_6n kept_6c Q s.1 s.2 h Kn) ((⟨#[]⟩ : ByteArray), 0) h
def ref26_path_l3 (s_0 : ByteArray) (end_3 : Int) (l_5a : Option Addr) (l_5n l_5c : Nat) (Q : QT) (kept_6a : Option Addr) (kept_6n kept_6c : Nat) (i_7 : Int) (h : Heap) (Kn3 : (Option Addr) × Nat × Nat × Int → Heap → Prop) : Prop :=
 if (decide (i_7 < ((l_5n : Nat) : Int))) = true then (idxA i_7 l_5n (nn l_5a fun t38 => ldS h (Addr.add t38 ((i_7).toNat * 1)) fun t39 => if (t39.toList == (⟨#[46, 46]⟩ : ByteArray).toList) = true then (if (decide (((kept_6n : Nat) : Int) > 0)) = true then (sliceSl 1 kept_6a kept_6n kept_6c none (some (wrap .i64 (((kept_6n : Nat) : Int) - 1))) none fun t50a t50n t50c => ref26_path_b4 s_0 end_3 l_5a l_5n l_5c t50a t50n t50c i_7 Q Kn3 h) else (ref26_path_b4 s_0 end_3 l_5a l_5n l_5c kept_6a kept_6n kept_6c i_7 Q Kn3 h)) else (ref26_path_b4 s_0 end_3 l_5a l_5n l_5c kept_6a kept_6n kept_6c i_7 Q Kn3 h))) else (ref26_path_b5 s_0 end_3 l_5a l_5n l_5c kept_6a kept_6n kept_6c Q h)
def ref26_path_b2 (s_0 : ByteArray) (end_3 : Int) (Q : QT) (h : Heap) : Prop :=
 sliceStr s_0 none (some end_3) fun t27 => CallT Tryd.prog fn_ref26_segments #[.string t27] h fun v h1 => ∃ t28a : Option Addr, ∃ t28n : Nat, ∃ t28c : Nat, v = .slice t28a t28n t28c ∧ alV h1 (.cells #[] T_string) fun t29 h2 => LoopV (fun (s : (Option Addr) × Nat × Nat × Int) h Kn => ref26_path_l3 s_0 end_3 t28a t28n t28c Q s.1 s.2.1 s.2.2.1 s.2.2.2 h Kn) (some t29, 0, 0, 0) h2
def ref26_path_l1 (s_0 : ByteArray) (Q : QT) (end_3 i_4 : Int) (h : Heap) (Kn1 : Int × Int → Heap → Prop) : Prop :=
 if (decide (i_4 ≥ 0)) = true then (idxS s_0 i_4 fun t22 => if (t22 == 63) = true then (Kn1 (i_4, wrap .i64 (i_4 - 1)) h) else (Kn1 (end_3, wrap .i64 (i_4 - 1)) h)) else (ref26_path_b2 s_0 end_3 Q h)
def ref26_path_v (s_0 : ByteArray) (Q : QT) (h : Heap) : Prop :=
 LoopV (fun (s : Int × Int) h Kn => ref26_path_l1 s_0 Q s.1 s.2 h Kn) (((s_0.size : Nat) : Int), wrap .i64 (((s_0.size : Nat) : Int) - 1)) h
set_option maxRecDepth 100000 in
theorem ref26_path_s (s_0 : ByteArray) {Q : QT} {h : Heap} (hk : ref26_path_v s_0 Q h) : CallT Tryd.prog fn_ref26_path #[.string s_0] h Q :=
 callU follows Tryd.func84 (Tryd.call84 _) rfl rfl [(16, fun e h => dS (e 0) fun s_0 => dI .i64 (e 3) fun end_3 => ref26_path_b2 s_0 end_3 Q h), (34, fun e h => dS (e 0) fun s_0 => dI .i64 (e 3) fun end_3 => dL (e 5) fun l_5a l_5n l_5c => dL (e 6) fun kept_6a kept_6n kept_6c => ref26_path_b5 s_0 end_3 l_5a l_5n l_5c kept_6a kept_6n kept_6c Q h), (48, fun e h => dS (e 0) fun s_0 => dI .i64 (e 3) fun end_3 => dL (e 5) fun l_5a l_5n l_5c => dS (e 8) fun t_8 => ref26_path_b8 s_0 end_3 l_5a l_5n l_5c t_8 Q h), (54, fun e h => dS (e 0) fun s_0 => dI .i64 (e 3) fun end_3 => dS (e 8) fun t_8 => ref26_path_b9 s_0 end_3 t_8 Q h)] [(8, fun e h => dS (e 0) fun s_0 => dI .i64 (e 3) fun end_3 => dI .i64 (e 4) fun i_4 => LoopV (fun (s : Int × Int) h Kn => ref26_path_l1 s_0 Q s.1 s.2 h Kn) (end_3, i_4) h), (22, fun e h => dS (e 0) fun s_0 => dI .i64 (e 3) fun end_3 => dL (e 5) fun l_5a l_5n l_5c => dL (e 6) fun kept_6a kept_6n kept_6c => dI .i64 (e 7) fun i_7 => LoopV (fun (s : (Option Addr) × Nat × Nat × Int) h Kn => ref26_path_l3 s_0 end_3 l_5a l_5n l_5c Q s.1 s.2.1 s.2.2.1 s.2.2.2 h Kn) (kept_6a, kept_6n, kept_6c, i_7) h), (38, fun e h => dS (e 0) fun s_0 => dI .i64 (e 3) fun end_3 => dL (e 5) fun l_5a l_5n l_5c => dL (e 6) fun kept_6a kept_6n kept_6c => dS (e 8) fun t_8 => dI .i64 (e 9) fun i_9 => LoopV (fun (s : ByteArray × Int) h Kn => ref26_path_l6 s_0 end_3 l_5a l_5n l_5c kept_6a kept_6n kept_6c Q s.1 s.2 h Kn) (t_8, i_9) h)]
 ⟨fun e h _ hk => by
 have F := Ag.nil (e := e)
 have ⟨s_0, F, hk⟩ := eS F hk
 have ⟨end_3, F, hk⟩ := eI F hk
 exact cutU F (by as_aux_lemma => kernel_rfl) hk, fun e h _ hk => by
 have F := Ag.nil (e := e)
 have ⟨s_0, F, hk⟩ := eS F hk
 have ⟨end_3, F, hk⟩ := eI F hk
 have ⟨l_5a, l_5n, l_5c, F, hk⟩ := eL F hk
 have ⟨kept_6a, kept_6n, kept_6c, F, hk⟩ := eL F hk
 exact cutU F (by as_aux_lemma => kernel_rfl) hk, fun e h _ hk => by
 have F := Ag.nil (e := e)
 have ⟨s_0, F, hk⟩ := eS F hk
 have ⟨end_3, F, hk⟩ := eI F hk
 have ⟨l_5a, l_5n, l_5c, F, hk⟩ := eL F hk
 have ⟨t_8, F, hk⟩ := eS F hk
 exact cutU F (by as_aux_lemma => kernel_rfl) hk, fun e h _ hk => by
 have F := Ag.nil (e := e)
 have ⟨s_0, F, hk⟩ := eS F hk
 have ⟨end_3, F, hk⟩ := eI F hk
 have ⟨t_8, F, hk⟩ := eS F hk
 exact cutU F (by as_aux_lemma => kernel_rfl) hk, trivial⟩
 ⟨⟨by kernel_rfl, fun e h he hk => by
 have F := Ag.nil (e := e)
 have ⟨s_0, F, hk⟩ := eS F hk
 have ⟨end_3, F, hk⟩ := eI F hk
 have ⟨i_4, F, hk⟩ := eI F hk
 exact loopU (s0 := (end_3, i_4)) follows (fun _ h => by cases h) he F (fun s => [(4, .int .i64 s.2), (3, .int .i64 s.1)]) (by kernel_rfl) (F.take 2) hk (fun Kn1 e h => dI .i64 (e 3) fun end_3 => dI .i64 (e 4) fun i_4 => Kn1 (end_3, i_4) h) (fun Kn1 e h hk => by
  have F := Ag.nil (e := e)
  have ⟨end_3, F, hk⟩ := eI F hk
  have ⟨i_4, F, hk⟩ := eI F hk
  exact ⟨(end_3, i_4), F, hk⟩)
  (fun Kn1 => []) (fun Kn1 => [])
  (fun Kn1 => trivial)
  (fun Kn1 => trivial) (fun e s h Kn1 => by as_aux_lemma => kernel_rfl)⟩, ⟨by kernel_rfl, fun e h he hk => by
 have F := Ag.nil (e := e)
 have ⟨s_0, F, hk⟩ := eS F hk
 have ⟨end_3, F, hk⟩ := eI F hk
 have ⟨l_5a, l_5n, l_5c, F, hk⟩ := eL F hk
 have ⟨kept_6a, kept_6n, kept_6c, F, hk⟩ := eL F hk
 have ⟨i_7, F, hk⟩ := eI F hk
 exact loopU (s0 := (kept_6a, kept_6n, kept_6c, i_7)) follows (fun _ h => by cases h) he F (fun s => [(7, .int .i64 s.2.2.2), (6, .slice s.1 s.2.1 s.2.2.1)]) (by kernel_rfl) (F.take 2) hk (fun Kn3 e h => dL (e 6) fun kept_6a kept_6n kept_6c => dI .i64 (e 7) fun i_7 => Kn3 (kept_6a, kept_6n, kept_6c, i_7) h) (fun Kn3 e h hk => by
  have F := Ag.nil (e := e)
  have ⟨kept_6a, kept_6n, kept_6c, F, hk⟩ := eL F hk
  have ⟨i_7, F, hk⟩ := eI F hk
  exact ⟨(kept_6a, kept_6n, kept_6c, i_7), F, hk⟩)
  (fun Kn3 => [(30, fun e h => dS (e 0) fun s_0 => dI .i64 (e 3) fun end_3 => dL (e 5) fun l_5a l_5n l_5c => dL (e 6) fun kept_6a kept_6n kept_6c => dI .i64 (e 7) fun i_7 => ref26_path_b4 s_0 end_3 l_5a l_5n l_5c kept_6a kept_6n kept_6c i_7 Q Kn3 h)]) (fun Kn3 => [])
  (fun Kn3 => ⟨fun e h _ hk => by
 have F := Ag.nil (e := e)
 have ⟨s_0, F, hk⟩ := eS F hk
 have ⟨end_3, F, hk⟩ := eI F hk
 have ⟨l_5a, l_5n, l_5c, F, hk⟩ := eL F hk
 have ⟨kept_6a, kept_6n, kept_6c, F, hk⟩ := eL F hk
 have ⟨i_7, F, hk⟩ := eI F hk
 exact cutU F (by as_aux_lemma => kernel_rfl) hk, trivial⟩)
  (fun Kn3 => trivial) (fun e s h Kn3 => by as_aux_lemma => kernel_rfl)⟩, ⟨by kernel_rfl, fun e h he hk => by
 have F := Ag.nil (e := e)
 have ⟨s_0, F, hk⟩ := eS F hk
 have ⟨end_3, F, hk⟩ := eI F hk
 have ⟨l_5a, l_5n, l_5c, F, hk⟩ := eL F hk
 have ⟨kept_6a, kept_6n, kept_6c, F, hk⟩ := eL F hk
 have ⟨t_8, F, hk⟩ := eS F hk
 have ⟨i_9, F, hk⟩ := eI F hk
 exact loopU (s0 := (t_8, i_9)) follows (fun _ h => by cases h) he F (fun s => [(9, .int .i64 s.2), (8, .string s.1)]) (by kernel_rfl) (F.take 2) hk (fun Kn6 e h => dS (e 8) fun t_8 => dI .i64 (e 9) fun i_9 => Kn6 (t_8, i_9) h) (fun Kn6 e h hk => by
  have F := Ag.nil (e := e)
  have ⟨t_8, F, hk⟩ := eS F hk
  have ⟨i_9, F, hk⟩ := eI F hk
  exact ⟨(t_8, i_9), F, hk⟩)
  (fun Kn6 => [(46, fun e h => dS (e 0) fun s_0 => dI .i64 (e 3) fun end_3 => dL (e 5) fun l_5a l_5n l_5c => dL (e 6) fun kept_6a kept_6n kept_6c => dS (e 8) fun t_8 => dI .i64 (e 9) fun i_9 => ref26_path_b7 s_0 end_3 l_5a l_5n l_5c kept_6a kept_6n kept_6c t_8 i_9 Q Kn6 h)]) (fun Kn6 => [])
  (fun Kn6 => ⟨fun e h _ hk => by
 have F := Ag.nil (e := e)
 have ⟨s_0, F, hk⟩ := eS F hk
 have ⟨end_3, F, hk⟩ := eI F hk
 have ⟨l_5a, l_5n, l_5c, F, hk⟩ := eL F hk
 have ⟨kept_6a, kept_6n, kept_6c, F, hk⟩ := eL F hk
 have ⟨t_8, F, hk⟩ := eS F hk
 have ⟨i_9, F, hk⟩ := eI F hk
 exact cutU F (by as_aux_lemma => kernel_rfl) hk, trivial⟩)
  (fun Kn6 => trivial) (fun e s h Kn6 => by as_aux_lemma => kernel_rfl)⟩, trivial⟩ (by as_aux_lemma => kernel_rfl) hk
/-! ### intrusion/intrusionref26.hex -/
def ref26_hex_l1 (s_0 : ByteArray) (Q : QT) (out_3a : Option Addr) (out_3n out_3c : Nat) (high_4 i_5 : Int) (h : Heap) (Kn1 : (Option Addr) × Nat × Nat × Int × Int → Heap → Prop) : Prop :=
 if (decide (i_5 < ((s_0.size : Nat) : Int))) = true then (idxS s_0 i_5 fun t16 => CallT Tryd.prog fn_ref26_digit #[.int .u8 t16] h fun v h2 => ∃ t17 : Int, v = .int .i64 t17 ∧ if (decide (t17 < 0)) = true then (Kn1 (out_3a, out_3n, out_3c, high_4, wrap .i64 (i_5 + 1)) h2) else (if (decide (high_4 < 0)) = true then (Kn1 (out_3a, out_3n, out_3c, t17, wrap .i64 (i_5 + 1)) h2) else (alV h2 (.cells #[.int .u8 (wrap .u8 (wrap .i64 ((wrap .i64 (high_4 * 16)) + t17)))] T_uint8) fun t29 h3 => bltV Tryd.prog .append #[T_sl_uint8, T_sl_uint8] T_sl_uint8 #[false, false] #[.slice out_3a out_3n out_3c, .slice (some t29) 1 1] h3 fun v h4 => ∃ t30a : Option Addr, ∃ t30n : Nat, ∃ t30c : Nat, v = .slice t30a t30n t30c ∧ Kn1 (t30a, t30n, t30c, (-1), wrap .i64 (i_5 + 1)) h4))) else (convV Tryd.prog T_sl_uint8 T_string (.slice out_3a out_3n out_3c) h fun v h5 => ∃ t32 : ByteArray, v = .string t32 ∧ Q (.string t32) h5)
def ref26_hex_v (s_0 : ByteArray) (Q : QT) (h : Heap) : Prop :=
 alV h (.cells #[] T_uint8) fun t7 h1 => LoopV (fun (s : (Option Addr) × Nat × Nat × Int × Int) h Kn => ref26_hex_l1 s_0 Q s.1 s.2.1 s.2.2.1 s.2.2.2.1 s.2.2.2.2 h Kn) (some t7, 0, 0, (-1), 0) h1
set_option maxRecDepth 100000 in
theorem ref26_hex_s (s_0 : ByteArray) {Q : QT} {h : Heap} (hk : ref26_hex_v s_0 Q h) : CallT Tryd.prog fn_ref26_hex #[.string s_0] h Q :=
 callU follows Tryd.func85 (Tryd.call85 _) rfl rfl [] [(10, fun e h => dS (e 0) fun s_0 => dL (e 3) fun out_3a out_3n out_3c => dI .i64 (e 4) fun high_4 => dI .i64 (e 5) fun i_5 => LoopV (fun (s : (Option Addr) × Nat × Nat × Int × Int) h Kn => ref26_hex_l1 s_0 Q s.1 s.2.1 s.2.2.1 s.2.2.2.1 s.2.2.2.2 h Kn) (out_3a, out_3n, out_3c, high_4, i_5) h)]
 trivial
 ⟨⟨by kernel_rfl, fun e h he hk => by
 have F := Ag.nil (e := e)
 have ⟨s_0, F, hk⟩ := eS F hk
 have ⟨out_3a, out_3n, out_3c, F, hk⟩ := eL F hk
 have ⟨high_4, F, hk⟩ := eI F hk
 have ⟨i_5, F, hk⟩ := eI F hk
 exact loopU (s0 := (out_3a, out_3n, out_3c, high_4, i_5)) follows (fun _ h => by cases h) he F (fun s => [(5, .int .i64 s.2.2.2.2), (4, .int .i64 s.2.2.2.1), (3, .slice s.1 s.2.1 s.2.2.1)]) (by kernel_rfl) (F.take 3) hk (fun Kn1 e h => dL (e 3) fun out_3a out_3n out_3c => dI .i64 (e 4) fun high_4 => dI .i64 (e 5) fun i_5 => Kn1 (out_3a, out_3n, out_3c, high_4, i_5) h) (fun Kn1 e h hk => by
  have F := Ag.nil (e := e)
  have ⟨out_3a, out_3n, out_3c, F, hk⟩ := eL F hk
  have ⟨high_4, F, hk⟩ := eI F hk
  have ⟨i_5, F, hk⟩ := eI F hk
  exact ⟨(out_3a, out_3n, out_3c, high_4, i_5), F, hk⟩)
  (fun Kn1 => []) (fun Kn1 => [])
  (fun Kn1 => trivial)
  (fun Kn1 => trivial) (fun e s h Kn1 => by as_aux_lemma => kernel_rfl)⟩, trivial⟩ (by as_aux_lemma => kernel_rfl) hk
/-! ### intrusion/intrusionref26.digit -/
def ref26_digit_b1 (c_0 : Int) (Q : QT) (h : Heap) : Prop :=
 if (decide (c_0 ≥ 97)) = true then (if (decide (c_0 ≤ 102)) = true then (Q (.int .i64 (wrap .i64 ((wrap .i64 (wrap .u8 (c_0 - 97))) + 10))) h) else (if (decide (c_0 ≥ 65)) = true then (if (decide (c_0 ≤ 70)) = true then (Q (.int .i64 (wrap .i64 ((wrap .i64 (wrap .u8 (c_0 - 65))) + 10))) h) else (Q (.int .i64 (-1)) h)) else (Q (.int .i64 (-1)) h))) else (if (decide (c_0 ≥ 65)) = true then (if (decide (c_0 ≤ 70)) = true then (Q (.int .i64 (wrap .i64 ((wrap .i64 (wrap .u8 (c_0 - 65))) + 10))) h) else (Q (.int .i64 (-1)) h)) else (Q (.int .i64 (-1)) h))
def ref26_digit_v (c_0 : Int) (Q : QT) (h : Heap) : Prop :=
 if (decide (c_0 ≥ 48)) = true then (if (decide (c_0 ≤ 57)) = true then (Q (.int .i64 (wrap .i64 (wrap .u8 (c_0 - 48)))) h) else (ref26_digit_b1 c_0 Q h)) else (ref26_digit_b1 c_0 Q h)
set_option maxRecDepth 100000 in
theorem ref26_digit_s (c_0 : Int) {Q : QT} {h : Heap} (hk : ref26_digit_v c_0 Q h) : CallT Tryd.prog fn_ref26_digit #[.int .u8 c_0] h Q :=
 callU follows Tryd.func88 (Tryd.call88 _) rfl rfl [(9, fun e h => dI .u8 (e 0) fun c_0 => ref26_digit_b1 c_0 Q h)] []
 ⟨fun e h _ hk => by
 have F := Ag.nil (e := e)
 have ⟨c_0, F, hk⟩ := eI F hk
 exact cutU F (by as_aux_lemma => kernel_rfl) hk, trivial⟩
 trivial (by as_aux_lemma => kernel_rfl) hk
/-! ### intrusion/intrusionref26.segments -/
def ref26_segments_b2 (s_0 : ByteArray) (out_3a : Option Addr) (out_3n out_3c : Nat) (from_4 i_5 : Int) (Q : QT) (Kn1 : (Option Addr) × Nat × Nat × Int × Int → Heap → Prop) (h : Heap) : Prop :=
 sliceStr s_0 (some from_4) (some i_5) fun t27 => alV h (.cells #[.string t27] T_string) fun t28 h2 => bltV Tryd.prog .append #[T_sl_string, T_sl_string] T_sl_string #[false, false] #[.slice out_3a out_3n out_3c, .slice (some t28) 1 1] h2 fun v h3 => ∃ t29a : Option Addr, ∃ t29n : Nat, ∃ t29c : Nat, v = .slice t29a t29n t29c ∧ Kn1 (t29a, t29n, t29c, wrap .i64 (i_5 + 1), wrap .i64 (i_5 + 1)) h3
def ref26_segments_l1 (s_0 : ByteArray) (Q : QT) (out_3a : Option Addr) (out_3n out_3c : Nat) (from_4 i_5 : Int) (h : Heap) (Kn1 : (Option Addr) × Nat × Nat × Int × Int → Heap → Prop) : Prop :=
 if (decide (i_5 ≤ ((s_0.size : Nat) : Int))) = true then (if (i_5 == ((s_0.size : Nat) : Int)) = true then (ref26_segments_b2 s_0 out_3a out_3n out_3c from_4 i_5 Q Kn1 h) else (idxS s_0 i_5 fun t20 => if (t20 == 47) = true then (ref26_segments_b2 s_0 out_3a out_3n out_3c from_4 i_5 Q Kn1 h) else (Kn1 (out_3a, out_3n, out_3c, from_4, wrap .i64 (i_5 + 1)) h))) else (Q (.slice out_3a out_3n out_3c) h)
def ref26_segments_v (s_0 : ByteArray) (Q : QT) (h : Heap) : Prop :=
 alV h (.cells #[] T_string) fun t6 h1 => LoopV (fun (s : (Option Addr) × Nat × Nat × Int × Int) h Kn => ref26_segments_l1 s_0 Q s.1 s.2.1 s.2.2.1 s.2.2.2.1 s.2.2.2.2 h Kn) (some t6, 0, 0, 0, 0) h1
set_option maxRecDepth 100000 in
theorem ref26_segments_s (s_0 : ByteArray) {Q : QT} {h : Heap} (hk : ref26_segments_v s_0 Q h) : CallT Tryd.prog fn_ref26_segments #[.string s_0] h Q :=
 callU follows Tryd.func89 (Tryd.call89 _) rfl rfl [] [(10, fun e h => dS (e 0) fun s_0 => dL (e 3) fun out_3a out_3n out_3c => dI .i64 (e 4) fun from_4 => dI .i64 (e 5) fun i_5 => LoopV (fun (s : (Option Addr) × Nat × Nat × Int × Int) h Kn => ref26_segments_l1 s_0 Q s.1 s.2.1 s.2.2.1 s.2.2.2.1 s.2.2.2.2 h Kn) (out_3a, out_3n, out_3c, from_4, i_5) h)]
 trivial
 ⟨⟨by kernel_rfl, fun e h he hk => by
 have F := Ag.nil (e := e)
 have ⟨s_0, F, hk⟩ := eS F hk
 have ⟨out_3a, out_3n, out_3c, F, hk⟩ := eL F hk
 have ⟨from_4, F, hk⟩ := eI F hk
 have ⟨i_5, F, hk⟩ := eI F hk
 exact loopU (s0 := (out_3a, out_3n, out_3c, from_4, i_5)) follows (fun _ h => by cases h) he F (fun s => [(5, .int .i64 s.2.2.2.2), (4, .int .i64 s.2.2.2.1), (3, .slice s.1 s.2.1 s.2.2.1)]) (by kernel_rfl) (F.take 3) hk (fun Kn1 e h => dL (e 3) fun out_3a out_3n out_3c => dI .i64 (e 4) fun from_4 => dI .i64 (e 5) fun i_5 => Kn1 (out_3a, out_3n, out_3c, from_4, i_5) h) (fun Kn1 e h hk => by
  have F := Ag.nil (e := e)
  have ⟨out_3a, out_3n, out_3c, F, hk⟩ := eL F hk
  have ⟨from_4, F, hk⟩ := eI F hk
  have ⟨i_5, F, hk⟩ := eI F hk
  exact ⟨(out_3a, out_3n, out_3c, from_4, i_5), F, hk⟩)
  (fun Kn1 => [(17, fun e h => dS (e 0) fun s_0 => dL (e 3) fun out_3a out_3n out_3c => dI .i64 (e 4) fun from_4 => dI .i64 (e 5) fun i_5 => ref26_segments_b2 s_0 out_3a out_3n out_3c from_4 i_5 Q Kn1 h)]) (fun Kn1 => [])
  (fun Kn1 => ⟨fun e h _ hk => by
 have F := Ag.nil (e := e)
 have ⟨s_0, F, hk⟩ := eS F hk
 have ⟨out_3a, out_3n, out_3c, F, hk⟩ := eL F hk
 have ⟨from_4, F, hk⟩ := eI F hk
 have ⟨i_5, F, hk⟩ := eI F hk
 exact cutU F (by as_aux_lemma => kernel_rfl) hk, trivial⟩)
  (fun Kn1 => trivial) (fun e s h Kn1 => by as_aux_lemma => kernel_rfl)⟩, trivial⟩ (by as_aux_lemma => kernel_rfl) hk
end Go.Proofs.YtmjbcnbjedipdaaDoor
