/-
  Printed by wip/tool/gen.py: verification conditions, and the proof that each suffices.
-/
import Derived.Test.YtooebihmkjkblaaProg
import Derived.Test.YtooebihmkjkblaaVcDraw
namespace Go.Proofs.Ytooebihmkjkblaa
set_option linter.unusedSimpArgs false
set_option linter.unusedVariables false
open Go
abbrev fn_main_main : FuncId := 0
abbrev fn_gosem_cut : FuncId := 1
abbrev fn_gosem_cut_init : FuncId := 2
abbrev fn_law25_LinesPlays : FuncId := 3
abbrev fn_law25_LinesSplit : FuncId := 4
abbrev fn_law25_LinesJoins : FuncId := 5
abbrev fn_law25_awake : FuncId := 6
abbrev fn_lines_New : FuncId := 7
abbrev fn_ref25_New : FuncId := 8
abbrev fn_ref25_Same : FuncId := 9
abbrev fn_lines_Splitter_Feed : FuncId := 10
abbrev fn_ref25_Splitter_Feed : FuncId := 11
abbrev fn_lines_Splitter_Close : FuncId := 12
abbrev fn_ref25_Splitter_Close : FuncId := 13
abbrev fn_lines_Splitter_Take : FuncId := 14
abbrev fn_ref25_Splitter_Take : FuncId := 15
abbrev fn_lines_Splitter_Rest : FuncId := 16
abbrev fn_ref25_Splitter_Rest : FuncId := 17
abbrev fn_lines_Split : FuncId := 18
abbrev fn_lines_bound : FuncId := 19
abbrev fn_lines_Splitter_Feed_1 : FuncId := 20
abbrev fn_strings_IndexByte : FuncId := 21
abbrev fn_lines_Splitter_append : FuncId := 22
abbrev fn_lines_Splitter_line : FuncId := 23
abbrev fn_lines_Splitter_length : FuncId := 24
abbrev fn_ref25_Splitter_line : FuncId := 25
abbrev fn_ref25_bare : FuncId := 26
abbrev fn_lines_Splitter_forget : FuncId := 27
abbrev fn_lines_Splitter_first : FuncId := 28
abbrev fn_internal_stringslite_IndexByte : FuncId := 29
abbrev fn_internal_bytealg_IndexByteString : FuncId := 30
abbrev fn_runtime_boundsError_Error : FuncId := 31
abbrev fn_runtime_boundsError_RuntimeError : FuncId := 32
abbrev fn_runtime_errorString_Error : FuncId := 33
abbrev fn_runtime_errorString_RuntimeError : FuncId := 34
abbrev fn_runtime_plainError_Error : FuncId := 35
abbrev fn_runtime_plainError_RuntimeError : FuncId := 36
abbrev fn_runtime_errorAddressString_Error : FuncId := 37
abbrev fn_runtime_errorAddressString_RuntimeError : FuncId := 38
abbrev fn_runtime_TypeAssertionError_Error : FuncId := 39
abbrev fn_runtime_TypeAssertionError_RuntimeError : FuncId := 40
abbrev fn_runtime_PanicNilError_Error : FuncId := 41
abbrev fn_runtime_PanicNilError_RuntimeError : FuncId := 42
abbrev fn_internal_abi_Type_Align : FuncId := 43
abbrev fn_internal_runtime_maps_unhashableTypeError_Error : FuncId := 44
abbrev fn_internal_runtime_maps_unhashableTypeError_RuntimeError : FuncId := 45
abbrev fn_internal_abi_Kind_String : FuncId := 46
variable [Gh]
/-! ### intrusion/intrusionlaw25.LinesPlays -/
def law25_LinesPlays_b3 (Q : Value → Heap → Prop) (h : Heap) : Prop :=
  CallT Try.prog fn_law25_awake #[] h fun v h1 => ∃ t11 : Bool, v = Value.bool t11 ∧ Q (Value.bool t11) h1
def law25_LinesPlays_b6 (Q : Value → Heap → Prop) (h : Heap) : Prop :=
  Q (Value.bool false) h
def law25_LinesPlays_b13 (Q : Value → Heap → Prop) (Kn9 : (Int) → Heap → Prop) (h : Heap) : Prop :=
  CallT Try.prog fn_law25_awake #[] h fun v h4 => ∃ t31 : Bool, v = Value.bool t31 ∧ Q (Value.bool t31) h4
def law25_LinesPlays_b18 (Q : Value → Heap → Prop) (Kn9 : (Int) → Heap → Prop) (h : Heap) : Prop :=
  Q (Value.bool false) h
def law25_LinesPlays_b20 (Q : Value → Heap → Prop) (Kn9 : (Int) → Heap → Prop) (h : Heap) : Prop :=
  Q (Value.bool false) h
def law25_LinesPlays_b21 (l_1a : Option Addr) (l_1n : Nat) (l_1c : Nat) (p_5 : Option Addr) (r_6 : Option Addr) (i_7 : Int) (Q : Value → Heap → Prop) (Kn9 : (Int) → Heap → Prop) (h : Heap) : Prop :=
  Kn9 (IntKind.wrap .i64 (i_7 + (1 : Int))) h
def law25_LinesPlays_b19 (l_1a : Option Addr) (l_1n : Nat) (l_1c : Nat) (p_5 : Option Addr) (r_6 : Option Addr) (i_7 : Int) (Q : Value → Heap → Prop) (Kn9 : (Int) → Heap → Prop) (h : Heap) : Prop :=
  CallT Try.prog fn_lines_Splitter_Rest #[Value.pointer p_5] h fun v h8 => ∃ t71 : ByteArray, v = Value.string t71 ∧ CallT Try.prog fn_ref25_Splitter_Rest #[Value.pointer r_6] h8 fun v h9 => ∃ t73 : ByteArray, v = Value.string t73 ∧ if (!(t71.toList == t73.toList)) = true then (law25_LinesPlays_b20 Q Kn9 h9) else (law25_LinesPlays_b21 l_1a l_1n l_1c p_5 r_6 i_7 Q Kn9 h9)
def law25_LinesPlays_b17 (l_1a : Option Addr) (l_1n : Nat) (l_1c : Nat) (p_5 : Option Addr) (r_6 : Option Addr) (i_7 : Int) (Q : Value → Heap → Prop) (Kn9 : (Int) → Heap → Prop) (h : Heap) : Prop :=
  idxA i_7 l_1n (nn l_1a fun t42 => ldS h (Addr.add (Addr.add t42 ((i_7).toNat * 2)) 1) fun t44 => idxA i_7 l_1n (nn l_1a fun t49 => ldS h (Addr.add (Addr.add t49 ((i_7).toNat * 2)) 1) fun t51 => CallT Try.prog fn_lines_Splitter_Feed #[Value.pointer p_5, Value.string t44] h fun v h5 => ∃ t45a : Option Addr, ∃ t45n : Nat, ∃ t45c : Nat, v = Value.slice t45a t45n t45c ∧ (ldS h5 (Addr.add (Addr.add t49 ((i_7).toNat * 2)) 1) fun t951 => Value.string t951 = Value.string t51) ∧ CallT Try.prog fn_ref25_Splitter_Feed #[Value.pointer r_6, Value.string t51] h5 fun v h6 => ∃ t52a : Option Addr, ∃ t52n : Nat, ∃ t52c : Nat, v = Value.slice t52a t52n t52c ∧ CallT Try.prog fn_ref25_Same #[Value.slice t45a t45n t45c, Value.slice t52a t52n t52c] h6 fun v h7 => ∃ t53 : Bool, v = Value.bool t53 ∧ if (!t53) = true then (law25_LinesPlays_b18 Q Kn9 h7) else (law25_LinesPlays_b19 l_1a l_1n l_1c p_5 r_6 i_7 Q Kn9 h7)))
def law25_LinesPlays_b24 (Q : Value → Heap → Prop) (Kn9 : (Int) → Heap → Prop) (h : Heap) : Prop :=
  Q (Value.bool false) h
def law25_LinesPlays_b23 (l_1a : Option Addr) (l_1n : Nat) (l_1c : Nat) (p_5 : Option Addr) (r_6 : Option Addr) (i_7 : Int) (Q : Value → Heap → Prop) (Kn9 : (Int) → Heap → Prop) (h : Heap) : Prop :=
  CallT Try.prog fn_lines_Splitter_Close #[Value.pointer p_5] h fun v h10 => ∃ t58a : Option Addr, ∃ t58n : Nat, ∃ t58c : Nat, v = Value.slice t58a t58n t58c ∧ CallT Try.prog fn_ref25_Splitter_Close #[Value.pointer r_6] h10 fun v h11 => ∃ t60a : Option Addr, ∃ t60n : Nat, ∃ t60c : Nat, v = Value.slice t60a t60n t60c ∧ CallT Try.prog fn_ref25_Same #[Value.slice t58a t58n t58c, Value.slice t60a t60n t60c] h11 fun v h12 => ∃ t61 : Bool, v = Value.bool t61 ∧ if (!t61) = true then (law25_LinesPlays_b24 Q Kn9 h12) else (law25_LinesPlays_b19 l_1a l_1n l_1c p_5 r_6 i_7 Q Kn9 h12)
def law25_LinesPlays_b27 (Q : Value → Heap → Prop) (Kn9 : (Int) → Heap → Prop) (h : Heap) : Prop :=
  Q (Value.bool false) h
def law25_LinesPlays_b26 (l_1a : Option Addr) (l_1n : Nat) (l_1c : Nat) (p_5 : Option Addr) (r_6 : Option Addr) (i_7 : Int) (Q : Value → Heap → Prop) (Kn9 : (Int) → Heap → Prop) (h : Heap) : Prop :=
  CallT Try.prog fn_lines_Splitter_Take #[Value.pointer p_5] h fun v h13 => ∃ t66 : ByteArray, v = Value.string t66 ∧ CallT Try.prog fn_ref25_Splitter_Take #[Value.pointer r_6] h13 fun v h14 => ∃ t68 : ByteArray, v = Value.string t68 ∧ if (!(t66.toList == t68.toList)) = true then (law25_LinesPlays_b27 Q Kn9 h14) else (law25_LinesPlays_b19 l_1a l_1n l_1c p_5 r_6 i_7 Q Kn9 h14)
def law25_LinesPlays_b25 (l_1a : Option Addr) (l_1n : Nat) (l_1c : Nat) (p_5 : Option Addr) (r_6 : Option Addr) (i_7 : Int) (t36 : Int) (Q : Value → Heap → Prop) (Kn9 : (Int) → Heap → Prop) (h : Heap) : Prop :=
  if (t36 == (2 : Int)) = true then (law25_LinesPlays_b26 l_1a l_1n l_1c p_5 r_6 i_7 Q Kn9 h) else (law25_LinesPlays_b19 l_1a l_1n l_1c p_5 r_6 i_7 Q Kn9 h)
def law25_LinesPlays_b22 (l_1a : Option Addr) (l_1n : Nat) (l_1c : Nat) (p_5 : Option Addr) (r_6 : Option Addr) (i_7 : Int) (t36 : Int) (Q : Value → Heap → Prop) (Kn9 : (Int) → Heap → Prop) (h : Heap) : Prop :=
  if (t36 == (1 : Int)) = true then (law25_LinesPlays_b23 l_1a l_1n l_1c p_5 r_6 i_7 Q Kn9 h) else (law25_LinesPlays_b25 l_1a l_1n l_1c p_5 r_6 i_7 t36 Q Kn9 h)
def law25_LinesPlays_b16 (l_1a : Option Addr) (l_1n : Nat) (l_1c : Nat) (p_5 : Option Addr) (r_6 : Option Addr) (i_7 : Int) (t36 : Int) (Q : Value → Heap → Prop) (Kn9 : (Int) → Heap → Prop) (h : Heap) : Prop :=
  if (t36 == (0 : Int)) = true then (law25_LinesPlays_b17 l_1a l_1n l_1c p_5 r_6 i_7 Q Kn9 h) else (law25_LinesPlays_b22 l_1a l_1n l_1c p_5 r_6 i_7 t36 Q Kn9 h)
def law25_LinesPlays_b15 (l_1a : Option Addr) (l_1n : Nat) (l_1c : Nat) (p_5 : Option Addr) (r_6 : Option Addr) (i_7 : Int) (Q : Value → Heap → Prop) (Kn9 : (Int) → Heap → Prop) (h : Heap) : Prop :=
  idxA i_7 l_1n (nn l_1a fun t34 => ldI h (Addr.add t34 ((i_7).toNat * 2)) .i64 fun t36 => law25_LinesPlays_b16 l_1a l_1n l_1c p_5 r_6 i_7 t36 Q Kn9 h)
def law25_LinesPlays_b14 (l_1a : Option Addr) (l_1n : Nat) (l_1c : Nat) (p_5 : Option Addr) (r_6 : Option Addr) (i_7 : Int) (Q : Value → Heap → Prop) (Kn9 : (Int) → Heap → Prop) (h : Heap) : Prop :=
  law25_LinesPlays_b15 l_1a l_1n l_1c p_5 r_6 i_7 Q Kn9 h
def law25_LinesPlays_b12 (l_1a : Option Addr) (l_1n : Nat) (l_1c : Nat) (p_5 : Option Addr) (r_6 : Option Addr) (i_7 : Int) (Q : Value → Heap → Prop) (Kn9 : (Int) → Heap → Prop) (h : Heap) : Prop :=
  idxA i_7 l_1n (nn l_1a fun t26 => ldS h (Addr.add (Addr.add t26 ((i_7).toNat * 2)) 1) fun t28 => if (decide (((t28.size : Nat) : Int) > (700 : Int))) = true then (law25_LinesPlays_b13 Q Kn9 h) else (law25_LinesPlays_b14 l_1a l_1n l_1c p_5 r_6 i_7 Q Kn9 h))
def law25_LinesPlays_b11 (l_1a : Option Addr) (l_1n : Nat) (l_1c : Nat) (p_5 : Option Addr) (r_6 : Option Addr) (i_7 : Int) (Q : Value → Heap → Prop) (Kn9 : (Int) → Heap → Prop) (h : Heap) : Prop :=
  law25_LinesPlays_b12 l_1a l_1n l_1c p_5 r_6 i_7 Q Kn9 h
def law25_LinesPlays_b28 (Q : Value → Heap → Prop) (h : Heap) : Prop :=
  CallT Try.prog fn_law25_awake #[] h fun v h15 => ∃ t75 : Bool, v = Value.bool t75 ∧ Q (Value.bool t75) h15
def law25_LinesPlays_b10 (l_1a : Option Addr) (l_1n : Nat) (l_1c : Nat) (p_5 : Option Addr) (r_6 : Option Addr) (i_7 : Int) (Q : Value → Heap → Prop) (Kn9 : (Int) → Heap → Prop) (h : Heap) : Prop :=
  if (decide (i_7 < ((l_1n : Nat) : Int))) = true then (law25_LinesPlays_b11 l_1a l_1n l_1c p_5 r_6 i_7 Q Kn9 h) else (law25_LinesPlays_b28 Q h)
def law25_LinesPlays_l9 (l_1a : Option Addr) (l_1n : Nat) (l_1c : Nat) (p_5 : Option Addr) (r_6 : Option Addr) (Q : Value → Heap → Prop) (i_7 : Int) (h : Heap) (Kn9 : (Int) → Heap → Prop) : Prop :=
  law25_LinesPlays_b10 l_1a l_1n l_1c p_5 r_6 i_7 Q Kn9 h
def law25_LinesPlays_b8 (l_1a : Option Addr) (l_1n : Nat) (l_1c : Nat) (p_5 : Option Addr) (r_6 : Option Addr) (Q : Value → Heap → Prop) (h : Heap) : Prop :=
  LoopV (fun (s : Int) h Kn => law25_LinesPlays_l9 l_1a l_1n l_1c p_5 r_6 Q s h Kn) 0 h
def law25_LinesPlays_b7 (max_0 : Int) (l_1a : Option Addr) (l_1n : Nat) (l_1c : Nat) (p_5 : Option Addr) (Q : Value → Heap → Prop) (h : Heap) : Prop :=
  CallT Try.prog fn_ref25_New #[Value.int .i64 max_0] h fun v h3 => ∃ t17 : Option Addr, v = Value.pointer t17 ∧ law25_LinesPlays_b8 l_1a l_1n l_1c p_5 t17 Q h3
def law25_LinesPlays_b5 (max_0 : Int) (l_1a : Option Addr) (l_1n : Nat) (l_1c : Nat) (p_5 : Option Addr) (Q : Value → Heap → Prop) (h : Heap) : Prop :=
  if (Option.isNone p_5) = true then (law25_LinesPlays_b6 Q h) else (law25_LinesPlays_b7 max_0 l_1a l_1n l_1c p_5 Q h)
def law25_LinesPlays_b4 (max_0 : Int) (l_1a : Option Addr) (l_1n : Nat) (l_1c : Nat) (Q : Value → Heap → Prop) (h : Heap) : Prop :=
  CallT Try.prog fn_lines_New #[Value.int .i64 max_0] h fun v h2 => ∃ t13 : Option Addr, v = Value.pointer t13 ∧ law25_LinesPlays_b5 max_0 l_1a l_1n l_1c t13 Q h2
def law25_LinesPlays_b2 (max_0 : Int) (l_1a : Option Addr) (l_1n : Nat) (l_1c : Nat) (Q : Value → Heap → Prop) (h : Heap) : Prop :=
  if (decide (((l_1n : Nat) : Int) > (40 : Int))) = true then (law25_LinesPlays_b3 Q h) else (law25_LinesPlays_b4 max_0 l_1a l_1n l_1c Q h)
def law25_LinesPlays_b1 (max_0 : Int) (l_1a : Option Addr) (l_1n : Nat) (l_1c : Nat) (Q : Value → Heap → Prop) (h : Heap) : Prop :=
  law25_LinesPlays_b2 max_0 l_1a l_1n l_1c Q h
def law25_LinesPlays_v (max_0 : Int) (l_1a : Option Addr) (l_1n : Nat) (l_1c : Nat) (Q : Value → Heap → Prop) (h : Heap) : Prop :=
  law25_LinesPlays_b1 max_0 l_1a l_1n l_1c Q h
set_option maxRecDepth 100000 in
theorem law25_LinesPlays_e (max_0 : Int) (l_1a : Option Addr) (l_1n : Nat) (l_1c : Nat) (Q : Value → Heap → Prop) (h : Heap) (hk : law25_LinesPlays_v max_0 l_1a l_1n l_1c Q h) :
    ∃ c, Try.f3.body = some c ∧ EWP Try.prog 76 c (fnPost Try.prog Try.f3 Q) (env0 #[Value.int .i64 max_0, Value.slice l_1a l_1n l_1c]) [] h := by
  refine ⟨_, rfl, ?_⟩
  have hk : law25_LinesPlays_b1 max_0 l_1a l_1n l_1c Q h := hk
  have f0 : env0 #[Value.int .i64 max_0, Value.slice l_1a l_1n l_1c] 0 = Value.int .i64 max_0 := rfl
  have f1 : env0 #[Value.int .i64 max_0, Value.slice l_1a l_1n l_1c] 1 = Value.slice l_1a l_1n l_1c := rfl
  generalize env0 #[Value.int .i64 max_0, Value.slice l_1a l_1n l_1c] = e at *
  refine EWP.seqR (fun e h => law25_LinesPlays_b2 max_0 l_1a l_1n l_1c Q h) ?_ ?_ ?_
  · kernel_rfl
  · skip
    exact eqMp (by as_aux_lemma => kernel_rfl : _ = law25_LinesPlays_b1 max_0 l_1a l_1n l_1c Q h) hk
  · intro e h hp hk
    have f0 := (hp 0 (by kernel_rfl)).trans f0
    have f1 := (hp 1 (by kernel_rfl)).trans f1
    clear hp
    refine EWP.seqC (fun e h => e 0 = Value.int .i64 max_0 ∧ e 1 = Value.slice l_1a l_1n l_1c ∧ law25_LinesPlays_b4 max_0 l_1a l_1n l_1c Q h) ?_ ?_
    · have he : upd e 1 (Value.slice l_1a l_1n l_1c) = e := by rw [upd_self f1]
      refine EWP.seqR (fun e h => dB (e 10) fun t10 => if t10 = true then (law25_LinesPlays_b3 Q h) else (law25_LinesPlays_b4 max_0 l_1a l_1n l_1c Q h)) ?_ ?_ ?_
      · kernel_rfl
      · rw [← he]
        exact eqMp (by as_aux_lemma => kernel_rfl : _ = law25_LinesPlays_b2 max_0 l_1a l_1n l_1c Q h) hk
      · intro e h hp hk
        have f0 := (hp 0 (by kernel_rfl)).trans f0
        have f1 := (hp 1 (by kernel_rfl)).trans f1
        clear hp
        obtain ⟨t10, f10, hk⟩ := dB_elim hk
        have fc : eev e (.tmp 10) = .bool t10 := f10
        refine EWP.condI fc hk ?_ ?_
        · intro hk
          refine EWP.seqR (fun e h => dB (e 4) fun t4 => Q (Value.bool t4) h) ?_ ?_ ?_
          · kernel_rfl
          · skip
            exact eqMp (by as_aux_lemma => kernel_rfl : _ = law25_LinesPlays_b3 Q h) hk
          · intro e h hp hk
            clear hp
            obtain ⟨t4, f4, hk⟩ := dB_elim hk
            refine EWP.ret ?_
            have he : upd e 4 (Value.bool t4) = e := by rw [upd_self f4]
            refine (show _ ∧ _ from ⟨rfl, ?_⟩)
            rw [← he]
            exact eqMp (by as_aux_lemma => kernel_rfl : _ = (Q (Value.bool t4) h)) hk
        · intro hk
          refine EWP.skip ?_
          exact (show _ ∧ _ from ⟨rfl, f0, f1, hk⟩)
    · rintro e h ⟨f0, f1, hk⟩
      have he : upd e 0 (Value.int .i64 max_0) = e := by rw [upd_self f0]
      refine EWP.seqR (fun e h => dP (e 5) fun p_5 => law25_LinesPlays_b5 max_0 l_1a l_1n l_1c p_5 Q h) ?_ ?_ ?_
      · kernel_rfl
      · rw [← he]
        exact eqMp (by as_aux_lemma => kernel_rfl : _ = law25_LinesPlays_b4 max_0 l_1a l_1n l_1c Q h) hk
      · intro e h hp hk
        have f0 := (hp 0 (by kernel_rfl)).trans f0
        have f1 := (hp 1 (by kernel_rfl)).trans f1
        clear hp
        obtain ⟨p_5, f5, hk⟩ := dP_elim hk
        refine EWP.seqC (fun e h => e 0 = Value.int .i64 max_0 ∧ e 1 = Value.slice l_1a l_1n l_1c ∧ e 5 = Value.pointer p_5 ∧ law25_LinesPlays_b7 max_0 l_1a l_1n l_1c p_5 Q h) ?_ ?_
        · have he : upd e 5 (Value.pointer p_5) = e := by rw [upd_self f5]
          refine EWP.seqR (fun e h => dB (e 15) fun t15 => if t15 = true then (law25_LinesPlays_b6 Q h) else (law25_LinesPlays_b7 max_0 l_1a l_1n l_1c p_5 Q h)) ?_ ?_ ?_
          · kernel_rfl
          · rw [← he]
            exact eqMp (by as_aux_lemma => kernel_rfl : _ = law25_LinesPlays_b5 max_0 l_1a l_1n l_1c p_5 Q h) hk
          · intro e h hp hk
            have f0 := (hp 0 (by kernel_rfl)).trans f0
            have f1 := (hp 1 (by kernel_rfl)).trans f1
            have f5 := (hp 5 (by kernel_rfl)).trans f5
            clear hp
            obtain ⟨t15, f15, hk⟩ := dB_elim hk
            have fc : eev e (.tmp 15) = .bool t15 := f15
            refine EWP.condI fc hk ?_ ?_
            · intro hk
              refine EWP.seqR (fun e h => dB (e 4) fun t4 => Q (Value.bool t4) h) ?_ ?_ ?_
              · kernel_rfl
              · skip
                exact eqMp (by as_aux_lemma => kernel_rfl : _ = law25_LinesPlays_b6 Q h) hk
              · intro e h hp hk
                clear hp
                obtain ⟨t4, f4, hk⟩ := dB_elim hk
                refine EWP.ret ?_
                have he : upd e 4 (Value.bool t4) = e := by rw [upd_self f4]
                refine (show _ ∧ _ from ⟨rfl, ?_⟩)
                rw [← he]
                exact eqMp (by as_aux_lemma => kernel_rfl : _ = (Q (Value.bool t4) h)) hk
            · intro hk
              refine EWP.skip ?_
              exact (show _ ∧ _ from ⟨rfl, f0, f1, f5, hk⟩)
        · rintro e h ⟨f0, f1, f5, hk⟩
          have he : upd e 0 (Value.int .i64 max_0) = e := by rw [upd_self f0]
          refine EWP.seqR (fun e h => dP (e 6) fun r_6 => law25_LinesPlays_b8 l_1a l_1n l_1c p_5 r_6 Q h) ?_ ?_ ?_
          · kernel_rfl
          · rw [← he]
            exact eqMp (by as_aux_lemma => kernel_rfl : _ = law25_LinesPlays_b7 max_0 l_1a l_1n l_1c p_5 Q h) hk
          · intro e h hp hk
            have f1 := (hp 1 (by kernel_rfl)).trans f1
            have f5 := (hp 5 (by kernel_rfl)).trans f5
            clear hp
            obtain ⟨r_6, f6, hk⟩ := dP_elim hk
            refine EWP.seqC (fun e h => law25_LinesPlays_b28 Q h) ?_ ?_
            · refine EWP.seqR (fun e h => dI .i64 (e 7) fun i_7 => LoopV (fun (s : Int) h Kn => law25_LinesPlays_l9 l_1a l_1n l_1c p_5 r_6 Q s h Kn) i_7 h) ?_ ?_ ?_
              · kernel_rfl
              · skip
                exact eqMp (by as_aux_lemma => kernel_rfl : _ = law25_LinesPlays_b8 l_1a l_1n l_1c p_5 r_6 Q h) hk
              · intro e h hp hk
                have f1 := (hp 1 (by kernel_rfl)).trans f1
                have f5 := (hp 5 (by kernel_rfl)).trans f5
                have f6 := (hp 6 (by kernel_rfl)).trans f6
                clear hp
                obtain ⟨i_7, f7, hk⟩ := dI_elim hk
                refine EWP.block ?_
                refine EWP.loopV (fun e (s : Int) => e 1 = Value.slice l_1a l_1n l_1c ∧ e 5 = Value.pointer p_5 ∧ e 6 = Value.pointer r_6 ∧ e 7 = Value.int .i64 s) ⟨f1, f5, f6, f7⟩ hk ?_
                rintro e i_7 h Kn9 ⟨f1, f5, f6, f7⟩ hk
                have f7 : e 7 = Value.int .i64 i_7 := f7
                have hk : law25_LinesPlays_l9 l_1a l_1n l_1c p_5 r_6 Q i_7 h Kn9 := hk
                refine EWP.seqC (fun e h => e 1 = Value.slice l_1a l_1n l_1c ∧ e 5 = Value.pointer p_5 ∧ e 6 = Value.pointer r_6 ∧ e 7 = Value.int .i64 i_7 ∧ law25_LinesPlays_b11 l_1a l_1n l_1c p_5 r_6 i_7 Q Kn9 h) ?_ ?_
                · have he : upd (upd e 1 (Value.slice l_1a l_1n l_1c)) 7 (Value.int .i64 i_7) = e := by rw [upd_self f1, upd_self f7]
                  refine EWP.seqR (fun e h => dB (e 21) fun t21 => if t21 = true then (law25_LinesPlays_b11 l_1a l_1n l_1c p_5 r_6 i_7 Q Kn9 h) else (law25_LinesPlays_b28 Q h)) ?_ ?_ ?_
                  · kernel_rfl
                  · rw [← he]
                    exact eqMp (by as_aux_lemma => kernel_rfl : _ = law25_LinesPlays_b10 l_1a l_1n l_1c p_5 r_6 i_7 Q Kn9 h) hk
                  · intro e h hp hk
                    have f1 := (hp 1 (by kernel_rfl)).trans f1
                    have f5 := (hp 5 (by kernel_rfl)).trans f5
                    have f6 := (hp 6 (by kernel_rfl)).trans f6
                    have f7 := (hp 7 (by kernel_rfl)).trans f7
                    clear hp
                    obtain ⟨t21, f21, hk⟩ := dB_elim hk
                    have fc : eev e (.tmp 21) = .bool t21 := f21
                    refine EWP.condI fc hk ?_ ?_
                    · intro hk
                      refine EWP.skip ?_
                      exact (show _ ∧ _ from ⟨rfl, f1, f5, f6, f7, hk⟩)
                    · intro hk
                      refine EWP.exit ?_
                      exact (show _ ∧ _ from ⟨rfl, hk⟩)
                · rintro e h ⟨f1, f5, f6, f7, hk⟩
                  refine EWP.seqC (fun e h => e 1 = Value.slice l_1a l_1n l_1c ∧ e 5 = Value.pointer p_5 ∧ e 6 = Value.pointer r_6 ∧ e 7 = Value.int .i64 i_7 ∧ law25_LinesPlays_b21 l_1a l_1n l_1c p_5 r_6 i_7 Q Kn9 h) ?_ ?_
                  · refine EWP.block ?_
                    refine EWP.seqC (fun e h => e 1 = Value.slice l_1a l_1n l_1c ∧ e 5 = Value.pointer p_5 ∧ e 6 = Value.pointer r_6 ∧ e 7 = Value.int .i64 i_7 ∧ law25_LinesPlays_b14 l_1a l_1n l_1c p_5 r_6 i_7 Q Kn9 h) ?_ ?_
                    · have he : upd (upd e 1 (Value.slice l_1a l_1n l_1c)) 7 (Value.int .i64 i_7) = e := by rw [upd_self f1, upd_self f7]
                      refine EWP.seqR (fun e h => dB (e 30) fun t30 => if t30 = true then (law25_LinesPlays_b13 Q Kn9 h) else (law25_LinesPlays_b14 l_1a l_1n l_1c p_5 r_6 i_7 Q Kn9 h)) ?_ ?_ ?_
                      · kernel_rfl
                      · rw [← he]
                        exact eqMp (by as_aux_lemma => kernel_rfl : _ = law25_LinesPlays_b12 l_1a l_1n l_1c p_5 r_6 i_7 Q Kn9 h) hk
                      · intro e h hp hk
                        have f1 := (hp 1 (by kernel_rfl)).trans f1
                        have f5 := (hp 5 (by kernel_rfl)).trans f5
                        have f6 := (hp 6 (by kernel_rfl)).trans f6
                        have f7 := (hp 7 (by kernel_rfl)).trans f7
                        clear hp
                        obtain ⟨t30, f30, hk⟩ := dB_elim hk
                        have fc : eev e (.tmp 30) = .bool t30 := f30
                        refine EWP.condI fc hk ?_ ?_
                        · intro hk
                          refine EWP.seqR (fun e h => dB (e 4) fun t4 => Q (Value.bool t4) h) ?_ ?_ ?_
                          · kernel_rfl
                          · skip
                            exact eqMp (by as_aux_lemma => kernel_rfl : _ = law25_LinesPlays_b13 Q Kn9 h) hk
                          · intro e h hp hk
                            clear hp
                            obtain ⟨t4, f4, hk⟩ := dB_elim hk
                            refine EWP.ret ?_
                            have he : upd e 4 (Value.bool t4) = e := by rw [upd_self f4]
                            refine (show _ ∧ _ from ⟨rfl, ?_⟩)
                            rw [← he]
                            exact eqMp (by as_aux_lemma => kernel_rfl : _ = (Q (Value.bool t4) h)) hk
                        · intro hk
                          refine EWP.skip ?_
                          exact (show _ ∧ _ from ⟨rfl, f1, f5, f6, f7, hk⟩)
                    · rintro e h ⟨f1, f5, f6, f7, hk⟩
                      refine EWP.seqC (fun e h => e 1 = Value.slice l_1a l_1n l_1c ∧ e 5 = Value.pointer p_5 ∧ e 6 = Value.pointer r_6 ∧ e 7 = Value.int .i64 i_7 ∧ law25_LinesPlays_b19 l_1a l_1n l_1c p_5 r_6 i_7 Q Kn9 h) ?_ ?_
                      · have he : upd (upd e 1 (Value.slice l_1a l_1n l_1c)) 7 (Value.int .i64 i_7) = e := by rw [upd_self f1, upd_self f7]
                        refine EWP.seqR (fun e h => dI .i64 (e 36) fun t36 => law25_LinesPlays_b16 l_1a l_1n l_1c p_5 r_6 i_7 t36 Q Kn9 h) ?_ ?_ ?_
                        · kernel_rfl
                        · rw [← he]
                          exact eqMp (by as_aux_lemma => kernel_rfl : _ = law25_LinesPlays_b15 l_1a l_1n l_1c p_5 r_6 i_7 Q Kn9 h) hk
                        · intro e h hp hk
                          have f1 := (hp 1 (by kernel_rfl)).trans f1
                          have f5 := (hp 5 (by kernel_rfl)).trans f5
                          have f6 := (hp 6 (by kernel_rfl)).trans f6
                          have f7 := (hp 7 (by kernel_rfl)).trans f7
                          clear hp
                          obtain ⟨t36, f36, hk⟩ := dI_elim hk
                          refine EWP.block ?_
                          have he : upd e 36 (Value.int .i64 t36) = e := by rw [upd_self f36]
                          refine EWP.seqR (fun e h => dB (e 37) fun t37 => if t37 = true then (law25_LinesPlays_b17 l_1a l_1n l_1c p_5 r_6 i_7 Q Kn9 h) else (law25_LinesPlays_b22 l_1a l_1n l_1c p_5 r_6 i_7 t36 Q Kn9 h)) ?_ ?_ ?_
                          · kernel_rfl
                          · rw [← he]
                            exact eqMp (by as_aux_lemma => kernel_rfl : _ = law25_LinesPlays_b16 l_1a l_1n l_1c p_5 r_6 i_7 t36 Q Kn9 h) hk
                          · intro e h hp hk
                            have f1 := (hp 1 (by kernel_rfl)).trans f1
                            have f5 := (hp 5 (by kernel_rfl)).trans f5
                            have f6 := (hp 6 (by kernel_rfl)).trans f6
                            have f7 := (hp 7 (by kernel_rfl)).trans f7
                            have f36 := (hp 36 (by kernel_rfl)).trans f36
                            clear hp
                            obtain ⟨t37, f37, hk⟩ := dB_elim hk
                            have fc : eev e (.tmp 37) = .bool t37 := f37
                            refine EWP.condI fc hk ?_ ?_
                            · intro hk
                              have he : upd (upd (upd (upd e 1 (Value.slice l_1a l_1n l_1c)) 5 (Value.pointer p_5)) 6 (Value.pointer r_6)) 7 (Value.int .i64 i_7) = e := by rw [upd_self f1, upd_self f5, upd_self f6, upd_self f7]
                              refine EWP.seqD (fun e h => dB (e 54) fun t54 => if t54 = true then (law25_LinesPlays_b18 Q Kn9 h) else (law25_LinesPlays_b19 l_1a l_1n l_1c p_5 r_6 i_7 Q Kn9 h)) ?_ ?_ ?_ ?_
                              · kernel_rfl
                              · kernel_rfl
                              · rw [← he]
                                exact eqMp (by as_aux_lemma => kernel_rfl : _ = law25_LinesPlays_b17 l_1a l_1n l_1c p_5 r_6 i_7 Q Kn9 h) hk
                              · intro e h hp hk
                                have f1 := (hp 1 (by kernel_rfl)).trans f1
                                have f5 := (hp 5 (by kernel_rfl)).trans f5
                                have f6 := (hp 6 (by kernel_rfl)).trans f6
                                have f7 := (hp 7 (by kernel_rfl)).trans f7
                                clear hp
                                obtain ⟨t54, f54, hk⟩ := dB_elim hk
                                have fc : eev e (.tmp 54) = .bool t54 := f54
                                refine EWP.condI fc hk ?_ ?_
                                · intro hk
                                  refine EWP.seqR (fun e h => dB (e 4) fun t4 => Q (Value.bool t4) h) ?_ ?_ ?_
                                  · kernel_rfl
                                  · skip
                                    exact eqMp (by as_aux_lemma => kernel_rfl : _ = law25_LinesPlays_b18 Q Kn9 h) hk
                                  · intro e h hp hk
                                    clear hp
                                    obtain ⟨t4, f4, hk⟩ := dB_elim hk
                                    refine EWP.ret ?_
                                    have he : upd e 4 (Value.bool t4) = e := by rw [upd_self f4]
                                    refine (show _ ∧ _ from ⟨rfl, ?_⟩)
                                    rw [← he]
                                    exact eqMp (by as_aux_lemma => kernel_rfl : _ = (Q (Value.bool t4) h)) hk
                                · intro hk
                                  refine EWP.skip ?_
                                  exact (show _ ∧ _ from ⟨rfl, f1, f5, f6, f7, hk⟩)
                            · intro hk
                              have he : upd e 36 (Value.int .i64 t36) = e := by rw [upd_self f36]
                              refine EWP.seqR (fun e h => dB (e 55) fun t55 => if t55 = true then (law25_LinesPlays_b23 l_1a l_1n l_1c p_5 r_6 i_7 Q Kn9 h) else (law25_LinesPlays_b25 l_1a l_1n l_1c p_5 r_6 i_7 t36 Q Kn9 h)) ?_ ?_ ?_
                              · kernel_rfl
                              · rw [← he]
                                exact eqMp (by as_aux_lemma => kernel_rfl : _ = law25_LinesPlays_b22 l_1a l_1n l_1c p_5 r_6 i_7 t36 Q Kn9 h) hk
                              · intro e h hp hk
                                have f1 := (hp 1 (by kernel_rfl)).trans f1
                                have f5 := (hp 5 (by kernel_rfl)).trans f5
                                have f6 := (hp 6 (by kernel_rfl)).trans f6
                                have f7 := (hp 7 (by kernel_rfl)).trans f7
                                have f36 := (hp 36 (by kernel_rfl)).trans f36
                                clear hp
                                obtain ⟨t55, f55, hk⟩ := dB_elim hk
                                have fc : eev e (.tmp 55) = .bool t55 := f55
                                refine EWP.condI fc hk ?_ ?_
                                · intro hk
                                  have he : upd (upd e 5 (Value.pointer p_5)) 6 (Value.pointer r_6) = e := by rw [upd_self f5, upd_self f6]
                                  refine EWP.seqR (fun e h => dB (e 62) fun t62 => if t62 = true then (law25_LinesPlays_b24 Q Kn9 h) else (law25_LinesPlays_b19 l_1a l_1n l_1c p_5 r_6 i_7 Q Kn9 h)) ?_ ?_ ?_
                                  · kernel_rfl
                                  · rw [← he]
                                    exact eqMp (by as_aux_lemma => kernel_rfl : _ = law25_LinesPlays_b23 l_1a l_1n l_1c p_5 r_6 i_7 Q Kn9 h) hk
                                  · intro e h hp hk
                                    have f1 := (hp 1 (by kernel_rfl)).trans f1
                                    have f5 := (hp 5 (by kernel_rfl)).trans f5
                                    have f6 := (hp 6 (by kernel_rfl)).trans f6
                                    have f7 := (hp 7 (by kernel_rfl)).trans f7
                                    clear hp
                                    obtain ⟨t62, f62, hk⟩ := dB_elim hk
                                    have fc : eev e (.tmp 62) = .bool t62 := f62
                                    refine EWP.condI fc hk ?_ ?_
                                    · intro hk
                                      refine EWP.seqR (fun e h => dB (e 4) fun t4 => Q (Value.bool t4) h) ?_ ?_ ?_
                                      · kernel_rfl
                                      · skip
                                        exact eqMp (by as_aux_lemma => kernel_rfl : _ = law25_LinesPlays_b24 Q Kn9 h) hk
                                      · intro e h hp hk
                                        clear hp
                                        obtain ⟨t4, f4, hk⟩ := dB_elim hk
                                        refine EWP.ret ?_
                                        have he : upd e 4 (Value.bool t4) = e := by rw [upd_self f4]
                                        refine (show _ ∧ _ from ⟨rfl, ?_⟩)
                                        rw [← he]
                                        exact eqMp (by as_aux_lemma => kernel_rfl : _ = (Q (Value.bool t4) h)) hk
                                    · intro hk
                                      refine EWP.skip ?_
                                      exact (show _ ∧ _ from ⟨rfl, f1, f5, f6, f7, hk⟩)
                                · intro hk
                                  have he : upd e 36 (Value.int .i64 t36) = e := by rw [upd_self f36]
                                  refine EWP.seqR (fun e h => dB (e 63) fun t63 => if t63 = true then (law25_LinesPlays_b26 l_1a l_1n l_1c p_5 r_6 i_7 Q Kn9 h) else (law25_LinesPlays_b19 l_1a l_1n l_1c p_5 r_6 i_7 Q Kn9 h)) ?_ ?_ ?_
                                  · kernel_rfl
                                  · rw [← he]
                                    exact eqMp (by as_aux_lemma => kernel_rfl : _ = law25_LinesPlays_b25 l_1a l_1n l_1c p_5 r_6 i_7 t36 Q Kn9 h) hk
                                  · intro e h hp hk
                                    have f1 := (hp 1 (by kernel_rfl)).trans f1
                                    have f5 := (hp 5 (by kernel_rfl)).trans f5
                                    have f6 := (hp 6 (by kernel_rfl)).trans f6
                                    have f7 := (hp 7 (by kernel_rfl)).trans f7
                                    clear hp
                                    obtain ⟨t63, f63, hk⟩ := dB_elim hk
                                    have fc : eev e (.tmp 63) = .bool t63 := f63
                                    refine EWP.condI fc hk ?_ ?_
                                    · intro hk
                                      have he : upd (upd e 5 (Value.pointer p_5)) 6 (Value.pointer r_6) = e := by rw [upd_self f5, upd_self f6]
                                      refine EWP.seqR (fun e h => dB (e 69) fun t69 => if t69 = true then (law25_LinesPlays_b27 Q Kn9 h) else (law25_LinesPlays_b19 l_1a l_1n l_1c p_5 r_6 i_7 Q Kn9 h)) ?_ ?_ ?_
                                      · kernel_rfl
                                      · rw [← he]
                                        exact eqMp (by as_aux_lemma => kernel_rfl : _ = law25_LinesPlays_b26 l_1a l_1n l_1c p_5 r_6 i_7 Q Kn9 h) hk
                                      · intro e h hp hk
                                        have f1 := (hp 1 (by kernel_rfl)).trans f1
                                        have f5 := (hp 5 (by kernel_rfl)).trans f5
                                        have f6 := (hp 6 (by kernel_rfl)).trans f6
                                        have f7 := (hp 7 (by kernel_rfl)).trans f7
                                        clear hp
                                        obtain ⟨t69, f69, hk⟩ := dB_elim hk
                                        have fc : eev e (.tmp 69) = .bool t69 := f69
                                        refine EWP.condI fc hk ?_ ?_
                                        · intro hk
                                          refine EWP.seqR (fun e h => dB (e 4) fun t4 => Q (Value.bool t4) h) ?_ ?_ ?_
                                          · kernel_rfl
                                          · skip
                                            exact eqMp (by as_aux_lemma => kernel_rfl : _ = law25_LinesPlays_b27 Q Kn9 h) hk
                                          · intro e h hp hk
                                            clear hp
                                            obtain ⟨t4, f4, hk⟩ := dB_elim hk
                                            refine EWP.ret ?_
                                            have he : upd e 4 (Value.bool t4) = e := by rw [upd_self f4]
                                            refine (show _ ∧ _ from ⟨rfl, ?_⟩)
                                            rw [← he]
                                            exact eqMp (by as_aux_lemma => kernel_rfl : _ = (Q (Value.bool t4) h)) hk
                                        · intro hk
                                          refine EWP.skip ?_
                                          exact (show _ ∧ _ from ⟨rfl, f1, f5, f6, f7, hk⟩)
                                    · intro hk
                                      refine EWP.skip ?_
                                      exact (show _ ∧ _ from ⟨rfl, f1, f5, f6, f7, hk⟩)
                      · rintro e h ⟨f1, f5, f6, f7, hk⟩
                        have he : upd (upd e 5 (Value.pointer p_5)) 6 (Value.pointer r_6) = e := by rw [upd_self f5, upd_self f6]
                        refine EWP.seqR (fun e h => dB (e 74) fun t74 => if t74 = true then (law25_LinesPlays_b20 Q Kn9 h) else (law25_LinesPlays_b21 l_1a l_1n l_1c p_5 r_6 i_7 Q Kn9 h)) ?_ ?_ ?_
                        · kernel_rfl
                        · rw [← he]
                          exact eqMp (by as_aux_lemma => kernel_rfl : _ = law25_LinesPlays_b19 l_1a l_1n l_1c p_5 r_6 i_7 Q Kn9 h) hk
                        · intro e h hp hk
                          have f1 := (hp 1 (by kernel_rfl)).trans f1
                          have f5 := (hp 5 (by kernel_rfl)).trans f5
                          have f6 := (hp 6 (by kernel_rfl)).trans f6
                          have f7 := (hp 7 (by kernel_rfl)).trans f7
                          clear hp
                          obtain ⟨t74, f74, hk⟩ := dB_elim hk
                          have fc : eev e (.tmp 74) = .bool t74 := f74
                          refine EWP.condI fc hk ?_ ?_
                          · intro hk
                            refine EWP.seqR (fun e h => dB (e 4) fun t4 => Q (Value.bool t4) h) ?_ ?_ ?_
                            · kernel_rfl
                            · skip
                              exact eqMp (by as_aux_lemma => kernel_rfl : _ = law25_LinesPlays_b20 Q Kn9 h) hk
                            · intro e h hp hk
                              clear hp
                              obtain ⟨t4, f4, hk⟩ := dB_elim hk
                              refine EWP.ret ?_
                              have he : upd e 4 (Value.bool t4) = e := by rw [upd_self f4]
                              refine (show _ ∧ _ from ⟨rfl, ?_⟩)
                              rw [← he]
                              exact eqMp (by as_aux_lemma => kernel_rfl : _ = (Q (Value.bool t4) h)) hk
                          · intro hk
                            refine EWP.skip ?_
                            exact (show _ ∧ _ from ⟨rfl, f1, f5, f6, f7, hk⟩)
                  · rintro e h ⟨f1, f5, f6, f7, hk⟩
                    have he : upd e 7 (Value.int .i64 i_7) = e := by rw [upd_self f7]
                    refine EWP.regionN (fun e h => dI .i64 (e 7) fun i_7 => Kn9 (i_7) h) ?_ ?_ ?_
                    · kernel_rfl
                    · rw [← he]
                      exact eqMp (by as_aux_lemma => kernel_rfl : _ = law25_LinesPlays_b21 l_1a l_1n l_1c p_5 r_6 i_7 Q Kn9 h) hk
                    · intro e h hp hk
                      have f1 := (hp 1 (by kernel_rfl)).trans f1
                      have f5 := (hp 5 (by kernel_rfl)).trans f5
                      have f6 := (hp 6 (by kernel_rfl)).trans f6
                      clear hp
                      obtain ⟨i_7, f7, hk⟩ := dI_elim hk
                      exact (show _ ∧ _ from ⟨rfl, i_7, ⟨f1, f5, f6, f7⟩, hk⟩)
            · rintro e h hk
              refine EWP.seqR (fun e h => dB (e 4) fun t4 => Q (Value.bool t4) h) ?_ ?_ ?_
              · kernel_rfl
              · skip
                exact eqMp (by as_aux_lemma => kernel_rfl : _ = law25_LinesPlays_b28 Q h) hk
              · intro e h hp hk
                clear hp
                obtain ⟨t4, f4, hk⟩ := dB_elim hk
                refine EWP.ret ?_
                have he : upd e 4 (Value.bool t4) = e := by rw [upd_self f4]
                refine (show _ ∧ _ from ⟨rfl, ?_⟩)
                rw [← he]
                exact eqMp (by as_aux_lemma => kernel_rfl : _ = (Q (Value.bool t4) h)) hk
theorem law25_LinesPlays_s (max_0 : Int) (l_1a : Option Addr) (l_1n : Nat) (l_1c : Nat) {Q : Value → Heap → Prop} {h : Heap} (hk : law25_LinesPlays_v max_0 l_1a l_1n l_1c Q h) : CallT Try.prog fn_law25_LinesPlays #[Value.int .i64 max_0, Value.slice l_1a l_1n l_1c] h Q := by
  obtain ⟨c, hb, he⟩ := law25_LinesPlays_e max_0 l_1a l_1n l_1c Q h hk
  exact callT_of (N := 76) Try.func3 hb rfl (Try.call3 _) (Nat.le_of_ble_eq_true rfl) he
/-! ### intrusion/intrusionlaw25.LinesSplit -/
def law25_LinesSplit_b3 (Q : Value → Heap → Prop) (h : Heap) : Prop :=
  CallT Try.prog fn_law25_awake #[] h fun v h1 => ∃ t22 : Bool, v = Value.bool t22 ∧ Q (Value.bool t22) h1
def law25_LinesSplit_b6 (Q : Value → Heap → Prop) (h : Heap) : Prop :=
  Q (Value.bool false) h
def law25_LinesSplit_b18 (s_0 : ByteArray) (max_1 : Int) (cuts_2a : Option Addr) (cuts_2n : Nat) (cuts_2c : Nat) (p_7 : Option Addr) (got_8a : Option Addr) (got_8n : Nat) (got_8c : Nat) (rest_9 : ByteArray) (i_10 : Int) (Q : Value → Heap → Prop) (Kn10 : ((Option Addr) × Nat × Nat × ByteArray × Int) → Heap → Prop) (h : Heap) : Prop :=
  Kn10 (got_8a, got_8n, got_8c, rest_9, IntKind.wrap .i64 (i_10 + (1 : Int))) h
def law25_LinesSplit_b17 (s_0 : ByteArray) (max_1 : Int) (cuts_2a : Option Addr) (cuts_2n : Nat) (cuts_2c : Nat) (p_7 : Option Addr) (got_8a : Option Addr) (got_8n : Nat) (got_8c : Nat) (rest_9 : ByteArray) (i_10 : Int) (n_11 : Int) (Q : Value → Heap → Prop) (Kn10 : ((Option Addr) × Nat × Nat × ByteArray × Int) → Heap → Prop) (h : Heap) : Prop :=
  sliceStr rest_9 (some n_11) none fun t54 => law25_LinesSplit_b18 s_0 max_1 cuts_2a cuts_2n cuts_2c p_7 got_8a got_8n got_8c t54 i_10 Q Kn10 h
def law25_LinesSplit_b16 (s_0 : ByteArray) (max_1 : Int) (cuts_2a : Option Addr) (cuts_2n : Nat) (cuts_2c : Nat) (p_7 : Option Addr) (got_8a : Option Addr) (got_8n : Nat) (got_8c : Nat) (rest_9 : ByteArray) (i_10 : Int) (n_11 : Int) (Q : Value → Heap → Prop) (Kn10 : ((Option Addr) × Nat × Nat × ByteArray × Int) → Heap → Prop) (h : Heap) : Prop :=
  sliceStr rest_9 none (some n_11) fun t49 => CallT Try.prog fn_lines_Splitter_Feed #[Value.pointer p_7, Value.string t49] h fun v h3 => ∃ t50a : Option Addr, ∃ t50n : Nat, ∃ t50c : Nat, v = Value.slice t50a t50n t50c ∧ bltV Try.prog .append #[31, 31] 31 #[false, false] #[Value.slice got_8a got_8n got_8c, Value.slice t50a t50n t50c] h3 fun v h4 => ∃ t51a : Option Addr, ∃ t51n : Nat, ∃ t51c : Nat, v = Value.slice t51a t51n t51c ∧ law25_LinesSplit_b17 s_0 max_1 cuts_2a cuts_2n cuts_2c p_7 t51a t51n t51c rest_9 i_10 n_11 Q Kn10 h4
def law25_LinesSplit_b15 (s_0 : ByteArray) (max_1 : Int) (cuts_2a : Option Addr) (cuts_2n : Nat) (cuts_2c : Nat) (p_7 : Option Addr) (got_8a : Option Addr) (got_8n : Nat) (got_8c : Nat) (rest_9 : ByteArray) (i_10 : Int) (Q : Value → Heap → Prop) (Kn10 : ((Option Addr) × Nat × Nat × ByteArray × Int) → Heap → Prop) (h : Heap) : Prop :=
  law25_LinesSplit_b16 s_0 max_1 cuts_2a cuts_2n cuts_2c p_7 got_8a got_8n got_8c rest_9 i_10 ((rest_9.size : Nat) : Int) Q Kn10 h
def law25_LinesSplit_b14 (s_0 : ByteArray) (max_1 : Int) (cuts_2a : Option Addr) (cuts_2n : Nat) (cuts_2c : Nat) (p_7 : Option Addr) (got_8a : Option Addr) (got_8n : Nat) (got_8c : Nat) (rest_9 : ByteArray) (i_10 : Int) (n_11 : Int) (Q : Value → Heap → Prop) (Kn10 : ((Option Addr) × Nat × Nat × ByteArray × Int) → Heap → Prop) (h : Heap) : Prop :=
  if (decide (n_11 > ((rest_9.size : Nat) : Int))) = true then (law25_LinesSplit_b15 s_0 max_1 cuts_2a cuts_2n cuts_2c p_7 got_8a got_8n got_8c rest_9 i_10 Q Kn10 h) else (law25_LinesSplit_b16 s_0 max_1 cuts_2a cuts_2n cuts_2c p_7 got_8a got_8n got_8c rest_9 i_10 n_11 Q Kn10 h)
def law25_LinesSplit_b13 (s_0 : ByteArray) (max_1 : Int) (cuts_2a : Option Addr) (cuts_2n : Nat) (cuts_2c : Nat) (p_7 : Option Addr) (got_8a : Option Addr) (got_8n : Nat) (got_8c : Nat) (rest_9 : ByteArray) (i_10 : Int) (Q : Value → Heap → Prop) (Kn10 : ((Option Addr) × Nat × Nat × ByteArray × Int) → Heap → Prop) (h : Heap) : Prop :=
  idxA i_10 cuts_2n (nn cuts_2a fun t36 => ldI h (Addr.add t36 ((i_10).toNat * 1)) .u8 fun t37 => law25_LinesSplit_b14 s_0 max_1 cuts_2a cuts_2n cuts_2c p_7 got_8a got_8n got_8c rest_9 i_10 (IntKind.wrap .i64 t37) Q Kn10 h)
def law25_LinesSplit_b12 (s_0 : ByteArray) (max_1 : Int) (cuts_2a : Option Addr) (cuts_2n : Nat) (cuts_2c : Nat) (p_7 : Option Addr) (got_8a : Option Addr) (got_8n : Nat) (got_8c : Nat) (rest_9 : ByteArray) (i_10 : Int) (Q : Value → Heap → Prop) (Kn10 : ((Option Addr) × Nat × Nat × ByteArray × Int) → Heap → Prop) (h : Heap) : Prop :=
  law25_LinesSplit_b13 s_0 max_1 cuts_2a cuts_2n cuts_2c p_7 got_8a got_8n got_8c rest_9 i_10 Q Kn10 h
def law25_LinesSplit_b26 (Q : Value → Heap → Prop) (Kn22 : (Int) → Heap → Prop) (h : Heap) : Prop :=
  Q (Value.bool false) h
def law25_LinesSplit_b32 (Q : Value → Heap → Prop) (Kn22 : (Int) → Heap → Prop) (Kn28 : (Int) → Heap → Prop) (h : Heap) : Prop :=
  Q (Value.bool false) h
def law25_LinesSplit_b33 (s_0 : ByteArray) (max_1 : Int) (got_8a : Option Addr) (got_8n : Nat) (got_8c : Nat) (i_12 : Int) (k_13 : Int) (Q : Value → Heap → Prop) (Kn22 : (Int) → Heap → Prop) (Kn28 : (Int) → Heap → Prop) (h : Heap) : Prop :=
  Kn28 (IntKind.wrap .i64 (k_13 + (1 : Int))) h
def law25_LinesSplit_b31 (s_0 : ByteArray) (max_1 : Int) (got_8a : Option Addr) (got_8n : Nat) (got_8c : Nat) (i_12 : Int) (k_13 : Int) (Q : Value → Heap → Prop) (Kn22 : (Int) → Heap → Prop) (Kn28 : (Int) → Heap → Prop) (h : Heap) : Prop :=
  idxA i_12 got_8n (nn got_8a fun t103 => ldS h (Addr.add t103 ((i_12).toNat * 2)) fun t105 => idxS t105 k_13 fun t107 => if (t107 == (10 : Int)) = true then (law25_LinesSplit_b32 Q Kn22 Kn28 h) else (law25_LinesSplit_b33 s_0 max_1 got_8a got_8n got_8c i_12 k_13 Q Kn22 Kn28 h))
def law25_LinesSplit_b30 (s_0 : ByteArray) (max_1 : Int) (got_8a : Option Addr) (got_8n : Nat) (got_8c : Nat) (i_12 : Int) (k_13 : Int) (Q : Value → Heap → Prop) (Kn22 : (Int) → Heap → Prop) (Kn28 : (Int) → Heap → Prop) (h : Heap) : Prop :=
  law25_LinesSplit_b31 s_0 max_1 got_8a got_8n got_8c i_12 k_13 Q Kn22 Kn28 h
def law25_LinesSplit_b34 (s_0 : ByteArray) (max_1 : Int) (got_8a : Option Addr) (got_8n : Nat) (got_8c : Nat) (i_12 : Int) (Q : Value → Heap → Prop) (Kn22 : (Int) → Heap → Prop) (h : Heap) : Prop :=
  Kn22 (IntKind.wrap .i64 (i_12 + (1 : Int))) h
def law25_LinesSplit_b29 (s_0 : ByteArray) (max_1 : Int) (got_8a : Option Addr) (got_8n : Nat) (got_8c : Nat) (i_12 : Int) (k_13 : Int) (Q : Value → Heap → Prop) (Kn22 : (Int) → Heap → Prop) (Kn28 : (Int) → Heap → Prop) (h : Heap) : Prop :=
  idxA i_12 got_8n (nn got_8a fun t94 => ldS h (Addr.add t94 ((i_12).toNat * 2)) fun t96 => if (decide (k_13 < ((t96.size : Nat) : Int))) = true then (law25_LinesSplit_b30 s_0 max_1 got_8a got_8n got_8c i_12 k_13 Q Kn22 Kn28 h) else (law25_LinesSplit_b34 s_0 max_1 got_8a got_8n got_8c i_12 Q Kn22 h))
def law25_LinesSplit_l28 (s_0 : ByteArray) (max_1 : Int) (got_8a : Option Addr) (got_8n : Nat) (got_8c : Nat) (i_12 : Int) (Q : Value → Heap → Prop) (Kn22 : (Int) → Heap → Prop) (k_13 : Int) (h : Heap) (Kn28 : (Int) → Heap → Prop) : Prop :=
  law25_LinesSplit_b29 s_0 max_1 got_8a got_8n got_8c i_12 k_13 Q Kn22 Kn28 h
def law25_LinesSplit_b27 (s_0 : ByteArray) (max_1 : Int) (got_8a : Option Addr) (got_8n : Nat) (got_8c : Nat) (i_12 : Int) (Q : Value → Heap → Prop) (Kn22 : (Int) → Heap → Prop) (h : Heap) : Prop :=
  LoopV (fun (s : Int) h Kn => law25_LinesSplit_l28 s_0 max_1 got_8a got_8n got_8c i_12 Q Kn22 s h Kn) 0 h
def law25_LinesSplit_b25 (s_0 : ByteArray) (max_1 : Int) (got_8a : Option Addr) (got_8n : Nat) (got_8c : Nat) (i_12 : Int) (Q : Value → Heap → Prop) (Kn22 : (Int) → Heap → Prop) (h : Heap) : Prop :=
  idxA i_12 got_8n (nn got_8a fun t72 => ldS h (Addr.add t72 ((i_12).toNat * 2)) fun t74 => if (decide (((t74.size : Nat) : Int) > (512 : Int))) = true then (law25_LinesSplit_b26 Q Kn22 h) else (if (decide (max_1 ≥ (1 : Int))) = true then (idxA i_12 got_8n (nn got_8a fun t83 => ldS h (Addr.add t83 ((i_12).toNat * 2)) fun t85 => if (decide (((t85.size : Nat) : Int) > max_1)) = true then (law25_LinesSplit_b26 Q Kn22 h) else (law25_LinesSplit_b27 s_0 max_1 got_8a got_8n got_8c i_12 Q Kn22 h))) else (law25_LinesSplit_b27 s_0 max_1 got_8a got_8n got_8c i_12 Q Kn22 h)))
def law25_LinesSplit_b24 (s_0 : ByteArray) (max_1 : Int) (got_8a : Option Addr) (got_8n : Nat) (got_8c : Nat) (i_12 : Int) (Q : Value → Heap → Prop) (Kn22 : (Int) → Heap → Prop) (h : Heap) : Prop :=
  law25_LinesSplit_b25 s_0 max_1 got_8a got_8n got_8c i_12 Q Kn22 h
def law25_LinesSplit_b35 (s_0 : ByteArray) (max_1 : Int) (got_8a : Option Addr) (got_8n : Nat) (got_8c : Nat) (Q : Value → Heap → Prop) (h : Heap) : Prop :=
  CallT Try.prog fn_lines_Split #[Value.string s_0, Value.int .i64 max_1] h fun v h9 => ∃ t112a : Option Addr, ∃ t112n : Nat, ∃ t112c : Nat, v = Value.slice t112a t112n t112c ∧ CallT Try.prog fn_ref25_Same #[Value.slice got_8a got_8n got_8c, Value.slice t112a t112n t112c] h9 fun v h10 => ∃ t113 : Bool, v = Value.bool t113 ∧ if t113 = true then (CallT Try.prog fn_law25_awake #[] h10 fun v h11 => ∃ t115 : Bool, v = Value.bool t115 ∧ Q (Value.bool t115) h11) else (Q (Value.bool false) h10)
def law25_LinesSplit_b23 (s_0 : ByteArray) (max_1 : Int) (got_8a : Option Addr) (got_8n : Nat) (got_8c : Nat) (i_12 : Int) (Q : Value → Heap → Prop) (Kn22 : (Int) → Heap → Prop) (h : Heap) : Prop :=
  if (decide (i_12 < ((got_8n : Nat) : Int))) = true then (law25_LinesSplit_b24 s_0 max_1 got_8a got_8n got_8c i_12 Q Kn22 h) else (law25_LinesSplit_b35 s_0 max_1 got_8a got_8n got_8c Q h)
def law25_LinesSplit_l22 (s_0 : ByteArray) (max_1 : Int) (got_8a : Option Addr) (got_8n : Nat) (got_8c : Nat) (Q : Value → Heap → Prop) (i_12 : Int) (h : Heap) (Kn22 : (Int) → Heap → Prop) : Prop :=
  law25_LinesSplit_b23 s_0 max_1 got_8a got_8n got_8c i_12 Q Kn22 h
def law25_LinesSplit_b21 (s_0 : ByteArray) (max_1 : Int) (got_8a : Option Addr) (got_8n : Nat) (got_8c : Nat) (Q : Value → Heap → Prop) (h : Heap) : Prop :=
  LoopV (fun (s : Int) h Kn => law25_LinesSplit_l22 s_0 max_1 got_8a got_8n got_8c Q s h Kn) 0 h
def law25_LinesSplit_b20 (s_0 : ByteArray) (max_1 : Int) (p_7 : Option Addr) (got_8a : Option Addr) (got_8n : Nat) (got_8c : Nat) (Q : Value → Heap → Prop) (h : Heap) : Prop :=
  CallT Try.prog fn_lines_Splitter_Close #[Value.pointer p_7] h fun v h7 => ∃ t62a : Option Addr, ∃ t62n : Nat, ∃ t62c : Nat, v = Value.slice t62a t62n t62c ∧ bltV Try.prog .append #[31, 31] 31 #[false, false] #[Value.slice got_8a got_8n got_8c, Value.slice t62a t62n t62c] h7 fun v h8 => ∃ t63a : Option Addr, ∃ t63n : Nat, ∃ t63c : Nat, v = Value.slice t63a t63n t63c ∧ law25_LinesSplit_b21 s_0 max_1 t63a t63n t63c Q h8
def law25_LinesSplit_b19 (s_0 : ByteArray) (max_1 : Int) (p_7 : Option Addr) (got_8a : Option Addr) (got_8n : Nat) (got_8c : Nat) (rest_9 : ByteArray) (Q : Value → Heap → Prop) (h : Heap) : Prop :=
  CallT Try.prog fn_lines_Splitter_Feed #[Value.pointer p_7, Value.string rest_9] h fun v h5 => ∃ t58a : Option Addr, ∃ t58n : Nat, ∃ t58c : Nat, v = Value.slice t58a t58n t58c ∧ bltV Try.prog .append #[31, 31] 31 #[false, false] #[Value.slice got_8a got_8n got_8c, Value.slice t58a t58n t58c] h5 fun v h6 => ∃ t59a : Option Addr, ∃ t59n : Nat, ∃ t59c : Nat, v = Value.slice t59a t59n t59c ∧ law25_LinesSplit_b20 s_0 max_1 p_7 t59a t59n t59c Q h6
def law25_LinesSplit_b11 (s_0 : ByteArray) (max_1 : Int) (cuts_2a : Option Addr) (cuts_2n : Nat) (cuts_2c : Nat) (p_7 : Option Addr) (got_8a : Option Addr) (got_8n : Nat) (got_8c : Nat) (rest_9 : ByteArray) (i_10 : Int) (Q : Value → Heap → Prop) (Kn10 : ((Option Addr) × Nat × Nat × ByteArray × Int) → Heap → Prop) (h : Heap) : Prop :=
  if (decide (i_10 < ((cuts_2n : Nat) : Int))) = true then (law25_LinesSplit_b12 s_0 max_1 cuts_2a cuts_2n cuts_2c p_7 got_8a got_8n got_8c rest_9 i_10 Q Kn10 h) else (law25_LinesSplit_b19 s_0 max_1 p_7 got_8a got_8n got_8c rest_9 Q h)
def law25_LinesSplit_l10 (s_0 : ByteArray) (max_1 : Int) (cuts_2a : Option Addr) (cuts_2n : Nat) (cuts_2c : Nat) (p_7 : Option Addr) (Q : Value → Heap → Prop) (got_8a : Option Addr) (got_8n : Nat) (got_8c : Nat) (rest_9 : ByteArray) (i_10 : Int) (h : Heap) (Kn10 : ((Option Addr) × Nat × Nat × ByteArray × Int) → Heap → Prop) : Prop :=
  law25_LinesSplit_b11 s_0 max_1 cuts_2a cuts_2n cuts_2c p_7 got_8a got_8n got_8c rest_9 i_10 Q Kn10 h
def law25_LinesSplit_b9 (s_0 : ByteArray) (max_1 : Int) (cuts_2a : Option Addr) (cuts_2n : Nat) (cuts_2c : Nat) (p_7 : Option Addr) (got_8a : Option Addr) (got_8n : Nat) (got_8c : Nat) (rest_9 : ByteArray) (Q : Value → Heap → Prop) (h : Heap) : Prop :=
  LoopV (fun (s : (Option Addr) × Nat × Nat × ByteArray × Int) h Kn => law25_LinesSplit_l10 s_0 max_1 cuts_2a cuts_2n cuts_2c p_7 Q s.1 s.2.1 s.2.2.1 s.2.2.2.1 s.2.2.2.2 h Kn) (got_8a, got_8n, got_8c, rest_9, 0) h
def law25_LinesSplit_b8 (s_0 : ByteArray) (max_1 : Int) (cuts_2a : Option Addr) (cuts_2n : Nat) (cuts_2c : Nat) (p_7 : Option Addr) (got_8a : Option Addr) (got_8n : Nat) (got_8c : Nat) (Q : Value → Heap → Prop) (h : Heap) : Prop :=
  law25_LinesSplit_b9 s_0 max_1 cuts_2a cuts_2n cuts_2c p_7 got_8a got_8n got_8c s_0 Q h
def law25_LinesSplit_b7 (s_0 : ByteArray) (max_1 : Int) (cuts_2a : Option Addr) (cuts_2n : Nat) (cuts_2c : Nat) (p_7 : Option Addr) (Q : Value → Heap → Prop) (h : Heap) : Prop :=
  law25_LinesSplit_b8 s_0 max_1 cuts_2a cuts_2n cuts_2c p_7 none 0 0 Q h
def law25_LinesSplit_b5 (s_0 : ByteArray) (max_1 : Int) (cuts_2a : Option Addr) (cuts_2n : Nat) (cuts_2c : Nat) (p_7 : Option Addr) (Q : Value → Heap → Prop) (h : Heap) : Prop :=
  if (Option.isNone p_7) = true then (law25_LinesSplit_b6 Q h) else (law25_LinesSplit_b7 s_0 max_1 cuts_2a cuts_2n cuts_2c p_7 Q h)
def law25_LinesSplit_b4 (s_0 : ByteArray) (max_1 : Int) (cuts_2a : Option Addr) (cuts_2n : Nat) (cuts_2c : Nat) (Q : Value → Heap → Prop) (h : Heap) : Prop :=
  CallT Try.prog fn_lines_New #[Value.int .i64 max_1] h fun v h2 => ∃ t24 : Option Addr, v = Value.pointer t24 ∧ law25_LinesSplit_b5 s_0 max_1 cuts_2a cuts_2n cuts_2c t24 Q h2
def law25_LinesSplit_b2 (s_0 : ByteArray) (max_1 : Int) (cuts_2a : Option Addr) (cuts_2n : Nat) (cuts_2c : Nat) (Q : Value → Heap → Prop) (h : Heap) : Prop :=
  if (decide (((s_0.size : Nat) : Int) > (2000 : Int))) = true then (law25_LinesSplit_b3 Q h) else (if (decide (((cuts_2n : Nat) : Int) > (60 : Int))) = true then (law25_LinesSplit_b3 Q h) else (law25_LinesSplit_b4 s_0 max_1 cuts_2a cuts_2n cuts_2c Q h))
def law25_LinesSplit_b1 (s_0 : ByteArray) (max_1 : Int) (cuts_2a : Option Addr) (cuts_2n : Nat) (cuts_2c : Nat) (Q : Value → Heap → Prop) (h : Heap) : Prop :=
  law25_LinesSplit_b2 s_0 max_1 cuts_2a cuts_2n cuts_2c Q h
def law25_LinesSplit_v (s_0 : ByteArray) (max_1 : Int) (cuts_2a : Option Addr) (cuts_2n : Nat) (cuts_2c : Nat) (Q : Value → Heap → Prop) (h : Heap) : Prop :=
  law25_LinesSplit_b1 s_0 max_1 cuts_2a cuts_2n cuts_2c Q h
set_option maxRecDepth 100000 in
theorem law25_LinesSplit_e (s_0 : ByteArray) (max_1 : Int) (cuts_2a : Option Addr) (cuts_2n : Nat) (cuts_2c : Nat) (Q : Value → Heap → Prop) (h : Heap) (hk : law25_LinesSplit_v s_0 max_1 cuts_2a cuts_2n cuts_2c Q h) :
    ∃ c, Try.f4.body = some c ∧ EWP Try.prog 117 c (fnPost Try.prog Try.f4 Q) (env0 #[Value.string s_0, Value.int .i64 max_1, Value.slice cuts_2a cuts_2n cuts_2c]) [] h := by
  refine ⟨_, rfl, ?_⟩
  have hk : law25_LinesSplit_b1 s_0 max_1 cuts_2a cuts_2n cuts_2c Q h := hk
  have f0 : env0 #[Value.string s_0, Value.int .i64 max_1, Value.slice cuts_2a cuts_2n cuts_2c] 0 = Value.string s_0 := rfl
  have f1 : env0 #[Value.string s_0, Value.int .i64 max_1, Value.slice cuts_2a cuts_2n cuts_2c] 1 = Value.int .i64 max_1 := rfl
  have f2 : env0 #[Value.string s_0, Value.int .i64 max_1, Value.slice cuts_2a cuts_2n cuts_2c] 2 = Value.slice cuts_2a cuts_2n cuts_2c := rfl
  generalize env0 #[Value.string s_0, Value.int .i64 max_1, Value.slice cuts_2a cuts_2n cuts_2c] = e at *
  refine EWP.seqR (fun e h => law25_LinesSplit_b2 s_0 max_1 cuts_2a cuts_2n cuts_2c Q h) ?_ ?_ ?_
  · kernel_rfl
  · skip
    exact eqMp (by as_aux_lemma => kernel_rfl : _ = law25_LinesSplit_b1 s_0 max_1 cuts_2a cuts_2n cuts_2c Q h) hk
  · intro e h hp hk
    have f0 := (hp 0 (by kernel_rfl)).trans f0
    have f1 := (hp 1 (by kernel_rfl)).trans f1
    have f2 := (hp 2 (by kernel_rfl)).trans f2
    clear hp
    refine EWP.seqC (fun e h => e 0 = Value.string s_0 ∧ e 1 = Value.int .i64 max_1 ∧ e 2 = Value.slice cuts_2a cuts_2n cuts_2c ∧ law25_LinesSplit_b4 s_0 max_1 cuts_2a cuts_2n cuts_2c Q h) ?_ ?_
    · have he : upd (upd e 0 (Value.string s_0)) 2 (Value.slice cuts_2a cuts_2n cuts_2c) = e := by rw [upd_self f0, upd_self f2]
      refine EWP.seqR (fun e h => dB (e 21) fun t21 => if t21 = true then (law25_LinesSplit_b3 Q h) else (law25_LinesSplit_b4 s_0 max_1 cuts_2a cuts_2n cuts_2c Q h)) ?_ ?_ ?_
      · kernel_rfl
      · rw [← he]
        exact eqMp (by as_aux_lemma => kernel_rfl : _ = law25_LinesSplit_b2 s_0 max_1 cuts_2a cuts_2n cuts_2c Q h) hk
      · intro e h hp hk
        have f0 := (hp 0 (by kernel_rfl)).trans f0
        have f1 := (hp 1 (by kernel_rfl)).trans f1
        have f2 := (hp 2 (by kernel_rfl)).trans f2
        clear hp
        obtain ⟨t21, f21, hk⟩ := dB_elim hk
        have fc : eev e (.tmp 21) = .bool t21 := f21
        refine EWP.condI fc hk ?_ ?_
        · intro hk
          refine EWP.seqR (fun e h => dB (e 6) fun t6 => Q (Value.bool t6) h) ?_ ?_ ?_
          · kernel_rfl
          · skip
            exact eqMp (by as_aux_lemma => kernel_rfl : _ = law25_LinesSplit_b3 Q h) hk
          · intro e h hp hk
            clear hp
            obtain ⟨t6, f6, hk⟩ := dB_elim hk
            refine EWP.ret ?_
            have he : upd e 6 (Value.bool t6) = e := by rw [upd_self f6]
            refine (show _ ∧ _ from ⟨rfl, ?_⟩)
            rw [← he]
            exact eqMp (by as_aux_lemma => kernel_rfl : _ = (Q (Value.bool t6) h)) hk
        · intro hk
          refine EWP.skip ?_
          exact (show _ ∧ _ from ⟨rfl, f0, f1, f2, hk⟩)
    · rintro e h ⟨f0, f1, f2, hk⟩
      have he : upd e 1 (Value.int .i64 max_1) = e := by rw [upd_self f1]
      refine EWP.seqR (fun e h => dP (e 7) fun p_7 => law25_LinesSplit_b5 s_0 max_1 cuts_2a cuts_2n cuts_2c p_7 Q h) ?_ ?_ ?_
      · kernel_rfl
      · rw [← he]
        exact eqMp (by as_aux_lemma => kernel_rfl : _ = law25_LinesSplit_b4 s_0 max_1 cuts_2a cuts_2n cuts_2c Q h) hk
      · intro e h hp hk
        have f0 := (hp 0 (by kernel_rfl)).trans f0
        have f1 := (hp 1 (by kernel_rfl)).trans f1
        have f2 := (hp 2 (by kernel_rfl)).trans f2
        clear hp
        obtain ⟨p_7, f7, hk⟩ := dP_elim hk
        refine EWP.seqC (fun e h => e 0 = Value.string s_0 ∧ e 1 = Value.int .i64 max_1 ∧ e 2 = Value.slice cuts_2a cuts_2n cuts_2c ∧ e 7 = Value.pointer p_7 ∧ law25_LinesSplit_b7 s_0 max_1 cuts_2a cuts_2n cuts_2c p_7 Q h) ?_ ?_
        · have he : upd e 7 (Value.pointer p_7) = e := by rw [upd_self f7]
          refine EWP.seqR (fun e h => dB (e 26) fun t26 => if t26 = true then (law25_LinesSplit_b6 Q h) else (law25_LinesSplit_b7 s_0 max_1 cuts_2a cuts_2n cuts_2c p_7 Q h)) ?_ ?_ ?_
          · kernel_rfl
          · rw [← he]
            exact eqMp (by as_aux_lemma => kernel_rfl : _ = law25_LinesSplit_b5 s_0 max_1 cuts_2a cuts_2n cuts_2c p_7 Q h) hk
          · intro e h hp hk
            have f0 := (hp 0 (by kernel_rfl)).trans f0
            have f1 := (hp 1 (by kernel_rfl)).trans f1
            have f2 := (hp 2 (by kernel_rfl)).trans f2
            have f7 := (hp 7 (by kernel_rfl)).trans f7
            clear hp
            obtain ⟨t26, f26, hk⟩ := dB_elim hk
            have fc : eev e (.tmp 26) = .bool t26 := f26
            refine EWP.condI fc hk ?_ ?_
            · intro hk
              refine EWP.seqR (fun e h => dB (e 6) fun t6 => Q (Value.bool t6) h) ?_ ?_ ?_
              · kernel_rfl
              · skip
                exact eqMp (by as_aux_lemma => kernel_rfl : _ = law25_LinesSplit_b6 Q h) hk
              · intro e h hp hk
                clear hp
                obtain ⟨t6, f6, hk⟩ := dB_elim hk
                refine EWP.ret ?_
                have he : upd e 6 (Value.bool t6) = e := by rw [upd_self f6]
                refine (show _ ∧ _ from ⟨rfl, ?_⟩)
                rw [← he]
                exact eqMp (by as_aux_lemma => kernel_rfl : _ = (Q (Value.bool t6) h)) hk
            · intro hk
              refine EWP.skip ?_
              exact (show _ ∧ _ from ⟨rfl, f0, f1, f2, f7, hk⟩)
        · rintro e h ⟨f0, f1, f2, f7, hk⟩
          refine EWP.seqR (fun e h => dL (e 8) fun got_8a got_8n got_8c => law25_LinesSplit_b8 s_0 max_1 cuts_2a cuts_2n cuts_2c p_7 got_8a got_8n got_8c Q h) ?_ ?_ ?_
          · kernel_rfl
          · skip
            exact eqMp (by as_aux_lemma => kernel_rfl : _ = law25_LinesSplit_b7 s_0 max_1 cuts_2a cuts_2n cuts_2c p_7 Q h) hk
          · intro e h hp hk
            have f0 := (hp 0 (by kernel_rfl)).trans f0
            have f1 := (hp 1 (by kernel_rfl)).trans f1
            have f2 := (hp 2 (by kernel_rfl)).trans f2
            have f7 := (hp 7 (by kernel_rfl)).trans f7
            clear hp
            obtain ⟨got_8a, got_8n, got_8c, f8, hk⟩ := dL_elim hk
            have he : upd e 0 (Value.string s_0) = e := by rw [upd_self f0]
            refine EWP.seqR (fun e h => dS (e 9) fun rest_9 => law25_LinesSplit_b9 s_0 max_1 cuts_2a cuts_2n cuts_2c p_7 got_8a got_8n got_8c rest_9 Q h) ?_ ?_ ?_
            · kernel_rfl
            · rw [← he]
              exact eqMp (by as_aux_lemma => kernel_rfl : _ = law25_LinesSplit_b8 s_0 max_1 cuts_2a cuts_2n cuts_2c p_7 got_8a got_8n got_8c Q h) hk
            · intro e h hp hk
              have f0 := (hp 0 (by kernel_rfl)).trans f0
              have f1 := (hp 1 (by kernel_rfl)).trans f1
              have f2 := (hp 2 (by kernel_rfl)).trans f2
              have f7 := (hp 7 (by kernel_rfl)).trans f7
              have f8 := (hp 8 (by kernel_rfl)).trans f8
              clear hp
              obtain ⟨rest_9, f9, hk⟩ := dS_elim hk
              refine EWP.seqC (fun e h => e 0 = Value.string s_0 ∧ e 1 = Value.int .i64 max_1 ∧ e 7 = Value.pointer p_7 ∧ dL (e 8) fun got_8a got_8n got_8c => dS (e 9) fun rest_9 => law25_LinesSplit_b19 s_0 max_1 p_7 got_8a got_8n got_8c rest_9 Q h) ?_ ?_
              · refine EWP.seqR (fun e h => dI .i64 (e 10) fun i_10 => LoopV (fun (s : (Option Addr) × Nat × Nat × ByteArray × Int) h Kn => law25_LinesSplit_l10 s_0 max_1 cuts_2a cuts_2n cuts_2c p_7 Q s.1 s.2.1 s.2.2.1 s.2.2.2.1 s.2.2.2.2 h Kn) (got_8a, got_8n, got_8c, rest_9, i_10) h) ?_ ?_ ?_
                · kernel_rfl
                · skip
                  exact eqMp (by as_aux_lemma => kernel_rfl : _ = law25_LinesSplit_b9 s_0 max_1 cuts_2a cuts_2n cuts_2c p_7 got_8a got_8n got_8c rest_9 Q h) hk
                · intro e h hp hk
                  have f0 := (hp 0 (by kernel_rfl)).trans f0
                  have f1 := (hp 1 (by kernel_rfl)).trans f1
                  have f2 := (hp 2 (by kernel_rfl)).trans f2
                  have f7 := (hp 7 (by kernel_rfl)).trans f7
                  have f8 := (hp 8 (by kernel_rfl)).trans f8
                  have f9 := (hp 9 (by kernel_rfl)).trans f9
                  clear hp
                  obtain ⟨i_10, f10, hk⟩ := dI_elim hk
                  refine EWP.block ?_
                  refine EWP.loopV (fun e (s : (Option Addr) × Nat × Nat × ByteArray × Int) => e 0 = Value.string s_0 ∧ e 1 = Value.int .i64 max_1 ∧ e 2 = Value.slice cuts_2a cuts_2n cuts_2c ∧ e 7 = Value.pointer p_7 ∧ e 8 = Value.slice s.1 s.2.1 s.2.2.1 ∧ e 9 = Value.string s.2.2.2.1 ∧ e 10 = Value.int .i64 s.2.2.2.2) ⟨f0, f1, f2, f7, f8, f9, f10⟩ hk ?_
                  rintro e ⟨got_8a, got_8n, got_8c, rest_9, i_10⟩ h Kn10 ⟨f0, f1, f2, f7, f8, f9, f10⟩ hk
                  have f8 : e 8 = Value.slice got_8a got_8n got_8c := f8
                  have f9 : e 9 = Value.string rest_9 := f9
                  have f10 : e 10 = Value.int .i64 i_10 := f10
                  have hk : law25_LinesSplit_l10 s_0 max_1 cuts_2a cuts_2n cuts_2c p_7 Q got_8a got_8n got_8c rest_9 i_10 h Kn10 := hk
                  refine EWP.seqC (fun e h => e 0 = Value.string s_0 ∧ e 1 = Value.int .i64 max_1 ∧ e 2 = Value.slice cuts_2a cuts_2n cuts_2c ∧ e 7 = Value.pointer p_7 ∧ e 8 = Value.slice got_8a got_8n got_8c ∧ e 9 = Value.string rest_9 ∧ e 10 = Value.int .i64 i_10 ∧ law25_LinesSplit_b12 s_0 max_1 cuts_2a cuts_2n cuts_2c p_7 got_8a got_8n got_8c rest_9 i_10 Q Kn10 h) ?_ ?_
                  · have he : upd (upd e 2 (Value.slice cuts_2a cuts_2n cuts_2c)) 10 (Value.int .i64 i_10) = e := by rw [upd_self f2, upd_self f10]
                    refine EWP.seqR (fun e h => dB (e 31) fun t31 => if t31 = true then (law25_LinesSplit_b12 s_0 max_1 cuts_2a cuts_2n cuts_2c p_7 got_8a got_8n got_8c rest_9 i_10 Q Kn10 h) else (law25_LinesSplit_b19 s_0 max_1 p_7 got_8a got_8n got_8c rest_9 Q h)) ?_ ?_ ?_
                    · kernel_rfl
                    · rw [← he]
                      exact eqMp (by as_aux_lemma => kernel_rfl : _ = law25_LinesSplit_b11 s_0 max_1 cuts_2a cuts_2n cuts_2c p_7 got_8a got_8n got_8c rest_9 i_10 Q Kn10 h) hk
                    · intro e h hp hk
                      have f0 := (hp 0 (by kernel_rfl)).trans f0
                      have f1 := (hp 1 (by kernel_rfl)).trans f1
                      have f2 := (hp 2 (by kernel_rfl)).trans f2
                      have f7 := (hp 7 (by kernel_rfl)).trans f7
                      have f8 := (hp 8 (by kernel_rfl)).trans f8
                      have f9 := (hp 9 (by kernel_rfl)).trans f9
                      have f10 := (hp 10 (by kernel_rfl)).trans f10
                      clear hp
                      obtain ⟨t31, f31, hk⟩ := dB_elim hk
                      have fc : eev e (.tmp 31) = .bool t31 := f31
                      refine EWP.condI fc hk ?_ ?_
                      · intro hk
                        refine EWP.skip ?_
                        exact (show _ ∧ _ from ⟨rfl, f0, f1, f2, f7, f8, f9, f10, hk⟩)
                      · intro hk
                        refine EWP.exit ?_
                        exact (show _ ∧ _ from ⟨rfl, f0, f1, f7, dL_intro f8 (dS_intro f9 (hk))⟩)
                  · rintro e h ⟨f0, f1, f2, f7, f8, f9, f10, hk⟩
                    refine EWP.seqC (fun e h => e 0 = Value.string s_0 ∧ e 1 = Value.int .i64 max_1 ∧ e 2 = Value.slice cuts_2a cuts_2n cuts_2c ∧ e 7 = Value.pointer p_7 ∧ e 10 = Value.int .i64 i_10 ∧ dL (e 8) fun got_8a got_8n got_8c => dS (e 9) fun rest_9 => law25_LinesSplit_b18 s_0 max_1 cuts_2a cuts_2n cuts_2c p_7 got_8a got_8n got_8c rest_9 i_10 Q Kn10 h) ?_ ?_
                    · refine EWP.block ?_
                      have he : upd (upd e 2 (Value.slice cuts_2a cuts_2n cuts_2c)) 10 (Value.int .i64 i_10) = e := by rw [upd_self f2, upd_self f10]
                      refine EWP.seqR (fun e h => dI .i64 (e 11) fun n_11 => law25_LinesSplit_b14 s_0 max_1 cuts_2a cuts_2n cuts_2c p_7 got_8a got_8n got_8c rest_9 i_10 n_11 Q Kn10 h) ?_ ?_ ?_
                      · kernel_rfl
                      · rw [← he]
                        exact eqMp (by as_aux_lemma => kernel_rfl : _ = law25_LinesSplit_b13 s_0 max_1 cuts_2a cuts_2n cuts_2c p_7 got_8a got_8n got_8c rest_9 i_10 Q Kn10 h) hk
                      · intro e h hp hk
                        have f0 := (hp 0 (by kernel_rfl)).trans f0
                        have f1 := (hp 1 (by kernel_rfl)).trans f1
                        have f2 := (hp 2 (by kernel_rfl)).trans f2
                        have f7 := (hp 7 (by kernel_rfl)).trans f7
                        have f8 := (hp 8 (by kernel_rfl)).trans f8
                        have f9 := (hp 9 (by kernel_rfl)).trans f9
                        have f10 := (hp 10 (by kernel_rfl)).trans f10
                        clear hp
                        obtain ⟨n_11, f11, hk⟩ := dI_elim hk
                        refine EWP.seqC (fun e h => e 0 = Value.string s_0 ∧ e 1 = Value.int .i64 max_1 ∧ e 2 = Value.slice cuts_2a cuts_2n cuts_2c ∧ e 7 = Value.pointer p_7 ∧ e 8 = Value.slice got_8a got_8n got_8c ∧ e 9 = Value.string rest_9 ∧ e 10 = Value.int .i64 i_10 ∧ dI .i64 (e 11) fun n_11 => law25_LinesSplit_b16 s_0 max_1 cuts_2a cuts_2n cuts_2c p_7 got_8a got_8n got_8c rest_9 i_10 n_11 Q Kn10 h) ?_ ?_
                        · have he : upd (upd e 9 (Value.string rest_9)) 11 (Value.int .i64 n_11) = e := by rw [upd_self f9, upd_self f11]
                          refine EWP.seqR (fun e h => dB (e 42) fun t42 => if t42 = true then (law25_LinesSplit_b15 s_0 max_1 cuts_2a cuts_2n cuts_2c p_7 got_8a got_8n got_8c rest_9 i_10 Q Kn10 h) else (law25_LinesSplit_b16 s_0 max_1 cuts_2a cuts_2n cuts_2c p_7 got_8a got_8n got_8c rest_9 i_10 n_11 Q Kn10 h)) ?_ ?_ ?_
                          · kernel_rfl
                          · rw [← he]
                            exact eqMp (by as_aux_lemma => kernel_rfl : _ = law25_LinesSplit_b14 s_0 max_1 cuts_2a cuts_2n cuts_2c p_7 got_8a got_8n got_8c rest_9 i_10 n_11 Q Kn10 h) hk
                          · intro e h hp hk
                            have f0 := (hp 0 (by kernel_rfl)).trans f0
                            have f1 := (hp 1 (by kernel_rfl)).trans f1
                            have f2 := (hp 2 (by kernel_rfl)).trans f2
                            have f7 := (hp 7 (by kernel_rfl)).trans f7
                            have f8 := (hp 8 (by kernel_rfl)).trans f8
                            have f9 := (hp 9 (by kernel_rfl)).trans f9
                            have f10 := (hp 10 (by kernel_rfl)).trans f10
                            have f11 := (hp 11 (by kernel_rfl)).trans f11
                            clear hp
                            obtain ⟨t42, f42, hk⟩ := dB_elim hk
                            have fc : eev e (.tmp 42) = .bool t42 := f42
                            refine EWP.condI fc hk ?_ ?_
                            · intro hk
                              have he : upd e 9 (Value.string rest_9) = e := by rw [upd_self f9]
                              refine EWP.regionN (fun e h => dI .i64 (e 11) fun n_11 => law25_LinesSplit_b16 s_0 max_1 cuts_2a cuts_2n cuts_2c p_7 got_8a got_8n got_8c rest_9 i_10 n_11 Q Kn10 h) ?_ ?_ ?_
                              · kernel_rfl
                              · rw [← he]
                                exact eqMp (by as_aux_lemma => kernel_rfl : _ = law25_LinesSplit_b15 s_0 max_1 cuts_2a cuts_2n cuts_2c p_7 got_8a got_8n got_8c rest_9 i_10 Q Kn10 h) hk
                              · intro e h hp hk
                                have f0 := (hp 0 (by kernel_rfl)).trans f0
                                have f1 := (hp 1 (by kernel_rfl)).trans f1
                                have f2 := (hp 2 (by kernel_rfl)).trans f2
                                have f7 := (hp 7 (by kernel_rfl)).trans f7
                                have f8 := (hp 8 (by kernel_rfl)).trans f8
                                have f9 := (hp 9 (by kernel_rfl)).trans f9
                                have f10 := (hp 10 (by kernel_rfl)).trans f10
                                clear hp
                                obtain ⟨n_11, f11, hk⟩ := dI_elim hk
                                exact (show _ ∧ _ from ⟨rfl, f0, f1, f2, f7, f8, f9, f10, dI_intro f11 (hk)⟩)
                            · intro hk
                              refine EWP.skip ?_
                              exact (show _ ∧ _ from ⟨rfl, f0, f1, f2, f7, f8, f9, f10, dI_intro f11 (hk)⟩)
                        · rintro e h ⟨f0, f1, f2, f7, f8, f9, f10, hk⟩
                          obtain ⟨n_11, f11, hk⟩ := dI_elim hk
                          have he : upd (upd (upd (upd e 7 (Value.pointer p_7)) 8 (Value.slice got_8a got_8n got_8c)) 9 (Value.string rest_9)) 11 (Value.int .i64 n_11) = e := by rw [upd_self f7, upd_self f8, upd_self f9, upd_self f11]
                          refine EWP.seqR (fun e h => dL (e 8) fun got_8a got_8n got_8c => law25_LinesSplit_b17 s_0 max_1 cuts_2a cuts_2n cuts_2c p_7 got_8a got_8n got_8c rest_9 i_10 n_11 Q Kn10 h) ?_ ?_ ?_
                          · kernel_rfl
                          · rw [← he]
                            exact eqMp (by as_aux_lemma => kernel_rfl : _ = law25_LinesSplit_b16 s_0 max_1 cuts_2a cuts_2n cuts_2c p_7 got_8a got_8n got_8c rest_9 i_10 n_11 Q Kn10 h) hk
                          · intro e h hp hk
                            have f0 := (hp 0 (by kernel_rfl)).trans f0
                            have f1 := (hp 1 (by kernel_rfl)).trans f1
                            have f2 := (hp 2 (by kernel_rfl)).trans f2
                            have f7 := (hp 7 (by kernel_rfl)).trans f7
                            have f9 := (hp 9 (by kernel_rfl)).trans f9
                            have f10 := (hp 10 (by kernel_rfl)).trans f10
                            have f11 := (hp 11 (by kernel_rfl)).trans f11
                            clear hp
                            obtain ⟨got_8a, got_8n, got_8c, f8, hk⟩ := dL_elim hk
                            have he : upd (upd e 9 (Value.string rest_9)) 11 (Value.int .i64 n_11) = e := by rw [upd_self f9, upd_self f11]
                            refine EWP.regionN (fun e h => dS (e 9) fun rest_9 => law25_LinesSplit_b18 s_0 max_1 cuts_2a cuts_2n cuts_2c p_7 got_8a got_8n got_8c rest_9 i_10 Q Kn10 h) ?_ ?_ ?_
                            · kernel_rfl
                            · rw [← he]
                              exact eqMp (by as_aux_lemma => kernel_rfl : _ = law25_LinesSplit_b17 s_0 max_1 cuts_2a cuts_2n cuts_2c p_7 got_8a got_8n got_8c rest_9 i_10 n_11 Q Kn10 h) hk
                            · intro e h hp hk
                              have f0 := (hp 0 (by kernel_rfl)).trans f0
                              have f1 := (hp 1 (by kernel_rfl)).trans f1
                              have f2 := (hp 2 (by kernel_rfl)).trans f2
                              have f7 := (hp 7 (by kernel_rfl)).trans f7
                              have f8 := (hp 8 (by kernel_rfl)).trans f8
                              have f10 := (hp 10 (by kernel_rfl)).trans f10
                              clear hp
                              obtain ⟨rest_9, f9, hk⟩ := dS_elim hk
                              exact (show _ ∧ _ from ⟨rfl, f0, f1, f2, f7, f10, dL_intro f8 (dS_intro f9 (hk))⟩)
                    · rintro e h ⟨f0, f1, f2, f7, f10, hk⟩
                      obtain ⟨got_8a, got_8n, got_8c, f8, hk⟩ := dL_elim hk
                      obtain ⟨rest_9, f9, hk⟩ := dS_elim hk
                      have he : upd e 10 (Value.int .i64 i_10) = e := by rw [upd_self f10]
                      refine EWP.regionN (fun e h => dI .i64 (e 10) fun i_10 => Kn10 (got_8a, got_8n, got_8c, rest_9, i_10) h) ?_ ?_ ?_
                      · kernel_rfl
                      · rw [← he]
                        exact eqMp (by as_aux_lemma => kernel_rfl : _ = law25_LinesSplit_b18 s_0 max_1 cuts_2a cuts_2n cuts_2c p_7 got_8a got_8n got_8c rest_9 i_10 Q Kn10 h) hk
                      · intro e h hp hk
                        have f0 := (hp 0 (by kernel_rfl)).trans f0
                        have f1 := (hp 1 (by kernel_rfl)).trans f1
                        have f2 := (hp 2 (by kernel_rfl)).trans f2
                        have f7 := (hp 7 (by kernel_rfl)).trans f7
                        have f8 := (hp 8 (by kernel_rfl)).trans f8
                        have f9 := (hp 9 (by kernel_rfl)).trans f9
                        clear hp
                        obtain ⟨i_10, f10, hk⟩ := dI_elim hk
                        exact (show _ ∧ _ from ⟨rfl, (got_8a, got_8n, got_8c, rest_9, i_10), ⟨f0, f1, f2, f7, f8, f9, f10⟩, hk⟩)
              · rintro e h ⟨f0, f1, f7, hk⟩
                obtain ⟨got_8a, got_8n, got_8c, f8, hk⟩ := dL_elim hk
                obtain ⟨rest_9, f9, hk⟩ := dS_elim hk
                have he : upd (upd (upd e 7 (Value.pointer p_7)) 8 (Value.slice got_8a got_8n got_8c)) 9 (Value.string rest_9) = e := by rw [upd_self f7, upd_self f8, upd_self f9]
                refine EWP.seqR (fun e h => dL (e 8) fun got_8a got_8n got_8c => law25_LinesSplit_b20 s_0 max_1 p_7 got_8a got_8n got_8c Q h) ?_ ?_ ?_
                · kernel_rfl
                · rw [← he]
                  exact eqMp (by as_aux_lemma => kernel_rfl : _ = law25_LinesSplit_b19 s_0 max_1 p_7 got_8a got_8n got_8c rest_9 Q h) hk
                · intro e h hp hk
                  have f0 := (hp 0 (by kernel_rfl)).trans f0
                  have f1 := (hp 1 (by kernel_rfl)).trans f1
                  have f7 := (hp 7 (by kernel_rfl)).trans f7
                  clear hp
                  obtain ⟨got_8a, got_8n, got_8c, f8, hk⟩ := dL_elim hk
                  have he : upd (upd e 7 (Value.pointer p_7)) 8 (Value.slice got_8a got_8n got_8c) = e := by rw [upd_self f7, upd_self f8]
                  refine EWP.seqR (fun e h => dL (e 8) fun got_8a got_8n got_8c => law25_LinesSplit_b21 s_0 max_1 got_8a got_8n got_8c Q h) ?_ ?_ ?_
                  · kernel_rfl
                  · rw [← he]
                    exact eqMp (by as_aux_lemma => kernel_rfl : _ = law25_LinesSplit_b20 s_0 max_1 p_7 got_8a got_8n got_8c Q h) hk
                  · intro e h hp hk
                    have f0 := (hp 0 (by kernel_rfl)).trans f0
                    have f1 := (hp 1 (by kernel_rfl)).trans f1
                    clear hp
                    obtain ⟨got_8a, got_8n, got_8c, f8, hk⟩ := dL_elim hk
                    refine EWP.seqC (fun e h => e 0 = Value.string s_0 ∧ e 1 = Value.int .i64 max_1 ∧ e 8 = Value.slice got_8a got_8n got_8c ∧ law25_LinesSplit_b35 s_0 max_1 got_8a got_8n got_8c Q h) ?_ ?_
                    · refine EWP.seqR (fun e h => dI .i64 (e 12) fun i_12 => LoopV (fun (s : Int) h Kn => law25_LinesSplit_l22 s_0 max_1 got_8a got_8n got_8c Q s h Kn) i_12 h) ?_ ?_ ?_
                      · kernel_rfl
                      · skip
                        exact eqMp (by as_aux_lemma => kernel_rfl : _ = law25_LinesSplit_b21 s_0 max_1 got_8a got_8n got_8c Q h) hk
                      · intro e h hp hk
                        have f0 := (hp 0 (by kernel_rfl)).trans f0
                        have f1 := (hp 1 (by kernel_rfl)).trans f1
                        have f8 := (hp 8 (by kernel_rfl)).trans f8
                        clear hp
                        obtain ⟨i_12, f12, hk⟩ := dI_elim hk
                        refine EWP.block ?_
                        refine EWP.loopV (fun e (s : Int) => e 0 = Value.string s_0 ∧ e 1 = Value.int .i64 max_1 ∧ e 8 = Value.slice got_8a got_8n got_8c ∧ e 12 = Value.int .i64 s) ⟨f0, f1, f8, f12⟩ hk ?_
                        rintro e i_12 h Kn22 ⟨f0, f1, f8, f12⟩ hk
                        have f12 : e 12 = Value.int .i64 i_12 := f12
                        have hk : law25_LinesSplit_l22 s_0 max_1 got_8a got_8n got_8c Q i_12 h Kn22 := hk
                        refine EWP.seqC (fun e h => e 0 = Value.string s_0 ∧ e 1 = Value.int .i64 max_1 ∧ e 8 = Value.slice got_8a got_8n got_8c ∧ e 12 = Value.int .i64 i_12 ∧ law25_LinesSplit_b24 s_0 max_1 got_8a got_8n got_8c i_12 Q Kn22 h) ?_ ?_
                        · have he : upd (upd e 8 (Value.slice got_8a got_8n got_8c)) 12 (Value.int .i64 i_12) = e := by rw [upd_self f8, upd_self f12]
                          refine EWP.seqR (fun e h => dB (e 67) fun t67 => if t67 = true then (law25_LinesSplit_b24 s_0 max_1 got_8a got_8n got_8c i_12 Q Kn22 h) else (law25_LinesSplit_b35 s_0 max_1 got_8a got_8n got_8c Q h)) ?_ ?_ ?_
                          · kernel_rfl
                          · rw [← he]
                            exact eqMp (by as_aux_lemma => kernel_rfl : _ = law25_LinesSplit_b23 s_0 max_1 got_8a got_8n got_8c i_12 Q Kn22 h) hk
                          · intro e h hp hk
                            have f0 := (hp 0 (by kernel_rfl)).trans f0
                            have f1 := (hp 1 (by kernel_rfl)).trans f1
                            have f8 := (hp 8 (by kernel_rfl)).trans f8
                            have f12 := (hp 12 (by kernel_rfl)).trans f12
                            clear hp
                            obtain ⟨t67, f67, hk⟩ := dB_elim hk
                            have fc : eev e (.tmp 67) = .bool t67 := f67
                            refine EWP.condI fc hk ?_ ?_
                            · intro hk
                              refine EWP.skip ?_
                              exact (show _ ∧ _ from ⟨rfl, f0, f1, f8, f12, hk⟩)
                            · intro hk
                              refine EWP.exit ?_
                              exact (show _ ∧ _ from ⟨rfl, f0, f1, f8, hk⟩)
                        · rintro e h ⟨f0, f1, f8, f12, hk⟩
                          refine EWP.seqC (fun e h => e 0 = Value.string s_0 ∧ e 1 = Value.int .i64 max_1 ∧ e 8 = Value.slice got_8a got_8n got_8c ∧ e 12 = Value.int .i64 i_12 ∧ law25_LinesSplit_b34 s_0 max_1 got_8a got_8n got_8c i_12 Q Kn22 h) ?_ ?_
                          · refine EWP.block ?_
                            refine EWP.seqC (fun e h => e 0 = Value.string s_0 ∧ e 1 = Value.int .i64 max_1 ∧ e 8 = Value.slice got_8a got_8n got_8c ∧ e 12 = Value.int .i64 i_12 ∧ law25_LinesSplit_b27 s_0 max_1 got_8a got_8n got_8c i_12 Q Kn22 h) ?_ ?_
                            · have he : upd (upd (upd e 1 (Value.int .i64 max_1)) 8 (Value.slice got_8a got_8n got_8c)) 12 (Value.int .i64 i_12) = e := by rw [upd_self f1, upd_self f8, upd_self f12]
                              refine EWP.seqR (fun e h => dB (e 90) fun t90 => if t90 = true then (law25_LinesSplit_b26 Q Kn22 h) else (law25_LinesSplit_b27 s_0 max_1 got_8a got_8n got_8c i_12 Q Kn22 h)) ?_ ?_ ?_
                              · kernel_rfl
                              · rw [← he]
                                exact eqMp (by as_aux_lemma => kernel_rfl : _ = law25_LinesSplit_b25 s_0 max_1 got_8a got_8n got_8c i_12 Q Kn22 h) hk
                              · intro e h hp hk
                                have f0 := (hp 0 (by kernel_rfl)).trans f0
                                have f1 := (hp 1 (by kernel_rfl)).trans f1
                                have f8 := (hp 8 (by kernel_rfl)).trans f8
                                have f12 := (hp 12 (by kernel_rfl)).trans f12
                                clear hp
                                obtain ⟨t90, f90, hk⟩ := dB_elim hk
                                have fc : eev e (.tmp 90) = .bool t90 := f90
                                refine EWP.condI fc hk ?_ ?_
                                · intro hk
                                  refine EWP.seqR (fun e h => dB (e 6) fun t6 => Q (Value.bool t6) h) ?_ ?_ ?_
                                  · kernel_rfl
                                  · skip
                                    exact eqMp (by as_aux_lemma => kernel_rfl : _ = law25_LinesSplit_b26 Q Kn22 h) hk
                                  · intro e h hp hk
                                    clear hp
                                    obtain ⟨t6, f6, hk⟩ := dB_elim hk
                                    refine EWP.ret ?_
                                    have he : upd e 6 (Value.bool t6) = e := by rw [upd_self f6]
                                    refine (show _ ∧ _ from ⟨rfl, ?_⟩)
                                    rw [← he]
                                    exact eqMp (by as_aux_lemma => kernel_rfl : _ = (Q (Value.bool t6) h)) hk
                                · intro hk
                                  refine EWP.skip ?_
                                  exact (show _ ∧ _ from ⟨rfl, f0, f1, f8, f12, hk⟩)
                            · rintro e h ⟨f0, f1, f8, f12, hk⟩
                              refine EWP.seqR (fun e h => dI .i64 (e 13) fun k_13 => LoopV (fun (s : Int) h Kn => law25_LinesSplit_l28 s_0 max_1 got_8a got_8n got_8c i_12 Q Kn22 s h Kn) k_13 h) ?_ ?_ ?_
                              · kernel_rfl
                              · skip
                                exact eqMp (by as_aux_lemma => kernel_rfl : _ = law25_LinesSplit_b27 s_0 max_1 got_8a got_8n got_8c i_12 Q Kn22 h) hk
                              · intro e h hp hk
                                have f0 := (hp 0 (by kernel_rfl)).trans f0
                                have f1 := (hp 1 (by kernel_rfl)).trans f1
                                have f8 := (hp 8 (by kernel_rfl)).trans f8
                                have f12 := (hp 12 (by kernel_rfl)).trans f12
                                clear hp
                                obtain ⟨k_13, f13, hk⟩ := dI_elim hk
                                refine EWP.block ?_
                                refine EWP.loopV (fun e (s : Int) => e 0 = Value.string s_0 ∧ e 1 = Value.int .i64 max_1 ∧ e 8 = Value.slice got_8a got_8n got_8c ∧ e 12 = Value.int .i64 i_12 ∧ e 13 = Value.int .i64 s) ⟨f0, f1, f8, f12, f13⟩ hk ?_
                                rintro e k_13 h Kn28 ⟨f0, f1, f8, f12, f13⟩ hk
                                have f13 : e 13 = Value.int .i64 k_13 := f13
                                have hk : law25_LinesSplit_l28 s_0 max_1 got_8a got_8n got_8c i_12 Q Kn22 k_13 h Kn28 := hk
                                refine EWP.seqC (fun e h => e 0 = Value.string s_0 ∧ e 1 = Value.int .i64 max_1 ∧ e 8 = Value.slice got_8a got_8n got_8c ∧ e 12 = Value.int .i64 i_12 ∧ e 13 = Value.int .i64 k_13 ∧ law25_LinesSplit_b30 s_0 max_1 got_8a got_8n got_8c i_12 k_13 Q Kn22 Kn28 h) ?_ ?_
                                · have he : upd (upd (upd e 8 (Value.slice got_8a got_8n got_8c)) 12 (Value.int .i64 i_12)) 13 (Value.int .i64 k_13) = e := by rw [upd_self f8, upd_self f12, upd_self f13]
                                  refine EWP.seqR (fun e h => dB (e 98) fun t98 => if t98 = true then (law25_LinesSplit_b30 s_0 max_1 got_8a got_8n got_8c i_12 k_13 Q Kn22 Kn28 h) else (law25_LinesSplit_b34 s_0 max_1 got_8a got_8n got_8c i_12 Q Kn22 h)) ?_ ?_ ?_
                                  · kernel_rfl
                                  · rw [← he]
                                    exact eqMp (by as_aux_lemma => kernel_rfl : _ = law25_LinesSplit_b29 s_0 max_1 got_8a got_8n got_8c i_12 k_13 Q Kn22 Kn28 h) hk
                                  · intro e h hp hk
                                    have f0 := (hp 0 (by kernel_rfl)).trans f0
                                    have f1 := (hp 1 (by kernel_rfl)).trans f1
                                    have f8 := (hp 8 (by kernel_rfl)).trans f8
                                    have f12 := (hp 12 (by kernel_rfl)).trans f12
                                    have f13 := (hp 13 (by kernel_rfl)).trans f13
                                    clear hp
                                    obtain ⟨t98, f98, hk⟩ := dB_elim hk
                                    have fc : eev e (.tmp 98) = .bool t98 := f98
                                    refine EWP.condI fc hk ?_ ?_
                                    · intro hk
                                      refine EWP.skip ?_
                                      exact (show _ ∧ _ from ⟨rfl, f0, f1, f8, f12, f13, hk⟩)
                                    · intro hk
                                      refine EWP.exit ?_
                                      exact (show _ ∧ _ from ⟨rfl, f0, f1, f8, f12, hk⟩)
                                · rintro e h ⟨f0, f1, f8, f12, f13, hk⟩
                                  refine EWP.seqC (fun e h => e 0 = Value.string s_0 ∧ e 1 = Value.int .i64 max_1 ∧ e 8 = Value.slice got_8a got_8n got_8c ∧ e 12 = Value.int .i64 i_12 ∧ e 13 = Value.int .i64 k_13 ∧ law25_LinesSplit_b33 s_0 max_1 got_8a got_8n got_8c i_12 k_13 Q Kn22 Kn28 h) ?_ ?_
                                  · refine EWP.block ?_
                                    have he : upd (upd (upd e 8 (Value.slice got_8a got_8n got_8c)) 12 (Value.int .i64 i_12)) 13 (Value.int .i64 k_13) = e := by rw [upd_self f8, upd_self f12, upd_self f13]
                                    refine EWP.seqR (fun e h => dB (e 108) fun t108 => if t108 = true then (law25_LinesSplit_b32 Q Kn22 Kn28 h) else (law25_LinesSplit_b33 s_0 max_1 got_8a got_8n got_8c i_12 k_13 Q Kn22 Kn28 h)) ?_ ?_ ?_
                                    · kernel_rfl
                                    · rw [← he]
                                      exact eqMp (by as_aux_lemma => kernel_rfl : _ = law25_LinesSplit_b31 s_0 max_1 got_8a got_8n got_8c i_12 k_13 Q Kn22 Kn28 h) hk
                                    · intro e h hp hk
                                      have f0 := (hp 0 (by kernel_rfl)).trans f0
                                      have f1 := (hp 1 (by kernel_rfl)).trans f1
                                      have f8 := (hp 8 (by kernel_rfl)).trans f8
                                      have f12 := (hp 12 (by kernel_rfl)).trans f12
                                      have f13 := (hp 13 (by kernel_rfl)).trans f13
                                      clear hp
                                      obtain ⟨t108, f108, hk⟩ := dB_elim hk
                                      have fc : eev e (.tmp 108) = .bool t108 := f108
                                      refine EWP.condI fc hk ?_ ?_
                                      · intro hk
                                        refine EWP.seqR (fun e h => dB (e 6) fun t6 => Q (Value.bool t6) h) ?_ ?_ ?_
                                        · kernel_rfl
                                        · skip
                                          exact eqMp (by as_aux_lemma => kernel_rfl : _ = law25_LinesSplit_b32 Q Kn22 Kn28 h) hk
                                        · intro e h hp hk
                                          clear hp
                                          obtain ⟨t6, f6, hk⟩ := dB_elim hk
                                          refine EWP.ret ?_
                                          have he : upd e 6 (Value.bool t6) = e := by rw [upd_self f6]
                                          refine (show _ ∧ _ from ⟨rfl, ?_⟩)
                                          rw [← he]
                                          exact eqMp (by as_aux_lemma => kernel_rfl : _ = (Q (Value.bool t6) h)) hk
                                      · intro hk
                                        refine EWP.skip ?_
                                        exact (show _ ∧ _ from ⟨rfl, f0, f1, f8, f12, f13, hk⟩)
                                  · rintro e h ⟨f0, f1, f8, f12, f13, hk⟩
                                    have he : upd e 13 (Value.int .i64 k_13) = e := by rw [upd_self f13]
                                    refine EWP.regionN (fun e h => dI .i64 (e 13) fun k_13 => Kn28 (k_13) h) ?_ ?_ ?_
                                    · kernel_rfl
                                    · rw [← he]
                                      exact eqMp (by as_aux_lemma => kernel_rfl : _ = law25_LinesSplit_b33 s_0 max_1 got_8a got_8n got_8c i_12 k_13 Q Kn22 Kn28 h) hk
                                    · intro e h hp hk
                                      have f0 := (hp 0 (by kernel_rfl)).trans f0
                                      have f1 := (hp 1 (by kernel_rfl)).trans f1
                                      have f8 := (hp 8 (by kernel_rfl)).trans f8
                                      have f12 := (hp 12 (by kernel_rfl)).trans f12
                                      clear hp
                                      obtain ⟨k_13, f13, hk⟩ := dI_elim hk
                                      exact (show _ ∧ _ from ⟨rfl, k_13, ⟨f0, f1, f8, f12, f13⟩, hk⟩)
                          · rintro e h ⟨f0, f1, f8, f12, hk⟩
                            have he : upd e 12 (Value.int .i64 i_12) = e := by rw [upd_self f12]
                            refine EWP.regionN (fun e h => dI .i64 (e 12) fun i_12 => Kn22 (i_12) h) ?_ ?_ ?_
                            · kernel_rfl
                            · rw [← he]
                              exact eqMp (by as_aux_lemma => kernel_rfl : _ = law25_LinesSplit_b34 s_0 max_1 got_8a got_8n got_8c i_12 Q Kn22 h) hk
                            · intro e h hp hk
                              have f0 := (hp 0 (by kernel_rfl)).trans f0
                              have f1 := (hp 1 (by kernel_rfl)).trans f1
                              have f8 := (hp 8 (by kernel_rfl)).trans f8
                              clear hp
                              obtain ⟨i_12, f12, hk⟩ := dI_elim hk
                              exact (show _ ∧ _ from ⟨rfl, i_12, ⟨f0, f1, f8, f12⟩, hk⟩)
                    · rintro e h ⟨f0, f1, f8, hk⟩
                      have he : upd (upd (upd e 0 (Value.string s_0)) 1 (Value.int .i64 max_1)) 8 (Value.slice got_8a got_8n got_8c) = e := by rw [upd_self f0, upd_self f1, upd_self f8]
                      refine EWP.seqR (fun e h => dB (e 6) fun t6 => Q (Value.bool t6) h) ?_ ?_ ?_
                      · kernel_rfl
                      · rw [← he]
                        exact eqMp (by as_aux_lemma => kernel_rfl : _ = law25_LinesSplit_b35 s_0 max_1 got_8a got_8n got_8c Q h) hk
                      · intro e h hp hk
                        clear hp
                        obtain ⟨t6, f6, hk⟩ := dB_elim hk
                        refine EWP.ret ?_
                        have he : upd e 6 (Value.bool t6) = e := by rw [upd_self f6]
                        refine (show _ ∧ _ from ⟨rfl, ?_⟩)
                        rw [← he]
                        exact eqMp (by as_aux_lemma => kernel_rfl : _ = (Q (Value.bool t6) h)) hk
theorem law25_LinesSplit_s (s_0 : ByteArray) (max_1 : Int) (cuts_2a : Option Addr) (cuts_2n : Nat) (cuts_2c : Nat) {Q : Value → Heap → Prop} {h : Heap} (hk : law25_LinesSplit_v s_0 max_1 cuts_2a cuts_2n cuts_2c Q h) : CallT Try.prog fn_law25_LinesSplit #[Value.string s_0, Value.int .i64 max_1, Value.slice cuts_2a cuts_2n cuts_2c] h Q := by
  obtain ⟨c, hb, he⟩ := law25_LinesSplit_e s_0 max_1 cuts_2a cuts_2n cuts_2c Q h hk
  exact callT_of (N := 117) Try.func4 hb rfl (Try.call4 _) (Nat.le_of_ble_eq_true rfl) he
/-! ### intrusion/intrusionlaw25.LinesJoins -/
def law25_LinesJoins_b3 (Q : Value → Heap → Prop) (h : Heap) : Prop :=
  CallT Try.prog fn_law25_awake #[] h fun v h1 => ∃ t12 : Bool, v = Value.bool t12 ∧ Q (Value.bool t12) h1
def law25_LinesJoins_b11 (Q : Value → Heap → Prop) (Kn7 : (ByteArray × (Option Addr) × Nat × Nat × Int) → Heap → Prop) (h : Heap) : Prop :=
  CallT Try.prog fn_law25_awake #[] h fun v h2 => ∃ t25 : Bool, v = Value.bool t25 ∧ Q (Value.bool t25) h2
def law25_LinesJoins_b18 (Q : Value → Heap → Prop) (Kn7 : (ByteArray × (Option Addr) × Nat × Nat × Int) → Heap → Prop) (Kn14 : (Int) → Heap → Prop) (h : Heap) : Prop :=
  CallT Try.prog fn_law25_awake #[] h fun v h3 => ∃ t51 : Bool, v = Value.bool t51 ∧ Q (Value.bool t51) h3
def law25_LinesJoins_b19 (l_0a : Option Addr) (l_0n : Nat) (l_0c : Nat) (returns_1 : Bool) (s_5 : ByteArray) (want_6a : Option Addr) (want_6n : Nat) (want_6c : Nat) (i_7 : Int) (k_8 : Int) (Q : Value → Heap → Prop) (Kn7 : (ByteArray × (Option Addr) × Nat × Nat × Int) → Heap → Prop) (Kn14 : (Int) → Heap → Prop) (h : Heap) : Prop :=
  Kn14 (IntKind.wrap .i64 (k_8 + (1 : Int))) h
def law25_LinesJoins_b17 (l_0a : Option Addr) (l_0n : Nat) (l_0c : Nat) (returns_1 : Bool) (s_5 : ByteArray) (want_6a : Option Addr) (want_6n : Nat) (want_6c : Nat) (i_7 : Int) (k_8 : Int) (Q : Value → Heap → Prop) (Kn7 : (ByteArray × (Option Addr) × Nat × Nat × Int) → Heap → Prop) (Kn14 : (Int) → Heap → Prop) (h : Heap) : Prop :=
  idxA i_7 l_0n (nn l_0a fun t37 => ldS h (Addr.add t37 ((i_7).toNat * 1)) fun t38 => idxS t38 k_8 fun t40 => if (t40 == (10 : Int)) = true then (law25_LinesJoins_b18 Q Kn7 Kn14 h) else (idxA i_7 l_0n (nn l_0a fun t45 => ldS h (Addr.add t45 ((i_7).toNat * 1)) fun t46 => idxS t46 k_8 fun t48 => if (t48 == (13 : Int)) = true then (law25_LinesJoins_b18 Q Kn7 Kn14 h) else (law25_LinesJoins_b19 l_0a l_0n l_0c returns_1 s_5 want_6a want_6n want_6c i_7 k_8 Q Kn7 Kn14 h))))
def law25_LinesJoins_b16 (l_0a : Option Addr) (l_0n : Nat) (l_0c : Nat) (returns_1 : Bool) (s_5 : ByteArray) (want_6a : Option Addr) (want_6n : Nat) (want_6c : Nat) (i_7 : Int) (k_8 : Int) (Q : Value → Heap → Prop) (Kn7 : (ByteArray × (Option Addr) × Nat × Nat × Int) → Heap → Prop) (Kn14 : (Int) → Heap → Prop) (h : Heap) : Prop :=
  law25_LinesJoins_b17 l_0a l_0n l_0c returns_1 s_5 want_6a want_6n want_6c i_7 k_8 Q Kn7 Kn14 h
def law25_LinesJoins_b25 (l_0a : Option Addr) (l_0n : Nat) (l_0c : Nat) (returns_1 : Bool) (s_5 : ByteArray) (want_6a : Option Addr) (want_6n : Nat) (want_6c : Nat) (i_7 : Int) (Q : Value → Heap → Prop) (Kn7 : (ByteArray × (Option Addr) × Nat × Nat × Int) → Heap → Prop) (h : Heap) : Prop :=
  Kn7 (s_5, want_6a, want_6n, want_6c, IntKind.wrap .i64 (i_7 + (1 : Int))) h
def law25_LinesJoins_b24 (l_0a : Option Addr) (l_0n : Nat) (l_0c : Nat) (returns_1 : Bool) (s_5 : ByteArray) (want_6a : Option Addr) (want_6n : Nat) (want_6c : Nat) (i_7 : Int) (Q : Value → Heap → Prop) (Kn7 : (ByteArray × (Option Addr) × Nat × Nat × Int) → Heap → Prop) (h : Heap) : Prop :=
  idxA i_7 l_0n (nn l_0a fun t66 => ldS h (Addr.add t66 ((i_7).toNat * 1)) fun t67 => alV h (.cells #[Value.string t67, Value.bool false] 38) fun t69 h4 => bltV Try.prog .append #[31, 31] 31 #[false, false] #[Value.slice want_6a want_6n want_6c, Value.slice (some t69) 1 1] h4 fun v h5 => ∃ t70a : Option Addr, ∃ t70n : Nat, ∃ t70c : Nat, v = Value.slice t70a t70n t70c ∧ law25_LinesJoins_b25 l_0a l_0n l_0c returns_1 s_5 t70a t70n t70c i_7 Q Kn7 h5)
def law25_LinesJoins_b23 (l_0a : Option Addr) (l_0n : Nat) (l_0c : Nat) (returns_1 : Bool) (s_5 : ByteArray) (want_6a : Option Addr) (want_6n : Nat) (want_6c : Nat) (i_7 : Int) (Q : Value → Heap → Prop) (Kn7 : (ByteArray × (Option Addr) × Nat × Nat × Int) → Heap → Prop) (h : Heap) : Prop :=
  ((s_5.size + (⟨#[10]⟩ : ByteArray).size : Nat) : Int) ≤ IntKind.max .i64 ∧ law25_LinesJoins_b24 l_0a l_0n l_0c returns_1 (s_5 ++ (⟨#[10]⟩ : ByteArray)) want_6a want_6n want_6c i_7 Q Kn7 h
def law25_LinesJoins_b22 (l_0a : Option Addr) (l_0n : Nat) (l_0c : Nat) (returns_1 : Bool) (s_5 : ByteArray) (want_6a : Option Addr) (want_6n : Nat) (want_6c : Nat) (i_7 : Int) (Q : Value → Heap → Prop) (Kn7 : (ByteArray × (Option Addr) × Nat × Nat × Int) → Heap → Prop) (h : Heap) : Prop :=
  ((s_5.size + (⟨#[13]⟩ : ByteArray).size : Nat) : Int) ≤ IntKind.max .i64 ∧ law25_LinesJoins_b23 l_0a l_0n l_0c returns_1 (s_5 ++ (⟨#[13]⟩ : ByteArray)) want_6a want_6n want_6c i_7 Q Kn7 h
def law25_LinesJoins_b21 (l_0a : Option Addr) (l_0n : Nat) (l_0c : Nat) (returns_1 : Bool) (s_5 : ByteArray) (want_6a : Option Addr) (want_6n : Nat) (want_6c : Nat) (i_7 : Int) (Q : Value → Heap → Prop) (Kn7 : (ByteArray × (Option Addr) × Nat × Nat × Int) → Heap → Prop) (h : Heap) : Prop :=
  if returns_1 = true then (law25_LinesJoins_b22 l_0a l_0n l_0c returns_1 s_5 want_6a want_6n want_6c i_7 Q Kn7 h) else (law25_LinesJoins_b23 l_0a l_0n l_0c returns_1 s_5 want_6a want_6n want_6c i_7 Q Kn7 h)
def law25_LinesJoins_b20 (l_0a : Option Addr) (l_0n : Nat) (l_0c : Nat) (returns_1 : Bool) (s_5 : ByteArray) (want_6a : Option Addr) (want_6n : Nat) (want_6c : Nat) (i_7 : Int) (Q : Value → Heap → Prop) (Kn7 : (ByteArray × (Option Addr) × Nat × Nat × Int) → Heap → Prop) (h : Heap) : Prop :=
  idxA i_7 l_0n (nn l_0a fun t55 => ldS h (Addr.add t55 ((i_7).toNat * 1)) fun t56 => ((s_5.size + t56.size : Nat) : Int) ≤ IntKind.max .i64 ∧ law25_LinesJoins_b21 l_0a l_0n l_0c returns_1 (s_5 ++ t56) want_6a want_6n want_6c i_7 Q Kn7 h)
def law25_LinesJoins_b15 (l_0a : Option Addr) (l_0n : Nat) (l_0c : Nat) (returns_1 : Bool) (s_5 : ByteArray) (want_6a : Option Addr) (want_6n : Nat) (want_6c : Nat) (i_7 : Int) (k_8 : Int) (Q : Value → Heap → Prop) (Kn7 : (ByteArray × (Option Addr) × Nat × Nat × Int) → Heap → Prop) (Kn14 : (Int) → Heap → Prop) (h : Heap) : Prop :=
  idxA i_7 l_0n (nn l_0a fun t29 => ldS h (Addr.add t29 ((i_7).toNat * 1)) fun t30 => if (decide (k_8 < ((t30.size : Nat) : Int))) = true then (law25_LinesJoins_b16 l_0a l_0n l_0c returns_1 s_5 want_6a want_6n want_6c i_7 k_8 Q Kn7 Kn14 h) else (law25_LinesJoins_b20 l_0a l_0n l_0c returns_1 s_5 want_6a want_6n want_6c i_7 Q Kn7 h))
def law25_LinesJoins_l14 (l_0a : Option Addr) (l_0n : Nat) (l_0c : Nat) (returns_1 : Bool) (s_5 : ByteArray) (want_6a : Option Addr) (want_6n : Nat) (want_6c : Nat) (i_7 : Int) (Q : Value → Heap → Prop) (Kn7 : (ByteArray × (Option Addr) × Nat × Nat × Int) → Heap → Prop) (k_8 : Int) (h : Heap) (Kn14 : (Int) → Heap → Prop) : Prop :=
  law25_LinesJoins_b15 l_0a l_0n l_0c returns_1 s_5 want_6a want_6n want_6c i_7 k_8 Q Kn7 Kn14 h
def law25_LinesJoins_b13 (l_0a : Option Addr) (l_0n : Nat) (l_0c : Nat) (returns_1 : Bool) (s_5 : ByteArray) (want_6a : Option Addr) (want_6n : Nat) (want_6c : Nat) (i_7 : Int) (Q : Value → Heap → Prop) (Kn7 : (ByteArray × (Option Addr) × Nat × Nat × Int) → Heap → Prop) (h : Heap) : Prop :=
  LoopV (fun (s : Int) h Kn => law25_LinesJoins_l14 l_0a l_0n l_0c returns_1 s_5 want_6a want_6n want_6c i_7 Q Kn7 s h Kn) 0 h
def law25_LinesJoins_b12 (l_0a : Option Addr) (l_0n : Nat) (l_0c : Nat) (returns_1 : Bool) (s_5 : ByteArray) (want_6a : Option Addr) (want_6n : Nat) (want_6c : Nat) (i_7 : Int) (Q : Value → Heap → Prop) (Kn7 : (ByteArray × (Option Addr) × Nat × Nat × Int) → Heap → Prop) (h : Heap) : Prop :=
  law25_LinesJoins_b13 l_0a l_0n l_0c returns_1 s_5 want_6a want_6n want_6c i_7 Q Kn7 h
def law25_LinesJoins_b10 (l_0a : Option Addr) (l_0n : Nat) (l_0c : Nat) (returns_1 : Bool) (s_5 : ByteArray) (want_6a : Option Addr) (want_6n : Nat) (want_6c : Nat) (i_7 : Int) (Q : Value → Heap → Prop) (Kn7 : (ByteArray × (Option Addr) × Nat × Nat × Int) → Heap → Prop) (h : Heap) : Prop :=
  idxA i_7 l_0n (nn l_0a fun t21 => ldS h (Addr.add t21 ((i_7).toNat * 1)) fun t22 => if (decide (((t22.size : Nat) : Int) > (200 : Int))) = true then (law25_LinesJoins_b11 Q Kn7 h) else (law25_LinesJoins_b12 l_0a l_0n l_0c returns_1 s_5 want_6a want_6n want_6c i_7 Q Kn7 h))
def law25_LinesJoins_b9 (l_0a : Option Addr) (l_0n : Nat) (l_0c : Nat) (returns_1 : Bool) (s_5 : ByteArray) (want_6a : Option Addr) (want_6n : Nat) (want_6c : Nat) (i_7 : Int) (Q : Value → Heap → Prop) (Kn7 : (ByteArray × (Option Addr) × Nat × Nat × Int) → Heap → Prop) (h : Heap) : Prop :=
  law25_LinesJoins_b10 l_0a l_0n l_0c returns_1 s_5 want_6a want_6n want_6c i_7 Q Kn7 h
def law25_LinesJoins_b26 (s_5 : ByteArray) (want_6a : Option Addr) (want_6n : Nat) (want_6c : Nat) (Q : Value → Heap → Prop) (h : Heap) : Prop :=
  CallT Try.prog fn_lines_Split #[Value.string s_5, Value.int .i64 (200 : Int)] h fun v h6 => ∃ t72a : Option Addr, ∃ t72n : Nat, ∃ t72c : Nat, v = Value.slice t72a t72n t72c ∧ CallT Try.prog fn_ref25_Same #[Value.slice t72a t72n t72c, Value.slice want_6a want_6n want_6c] h6 fun v h7 => ∃ t74 : Bool, v = Value.bool t74 ∧ if t74 = true then (CallT Try.prog fn_law25_awake #[] h7 fun v h8 => ∃ t76 : Bool, v = Value.bool t76 ∧ Q (Value.bool t76) h8) else (Q (Value.bool false) h7)
def law25_LinesJoins_b8 (l_0a : Option Addr) (l_0n : Nat) (l_0c : Nat) (returns_1 : Bool) (s_5 : ByteArray) (want_6a : Option Addr) (want_6n : Nat) (want_6c : Nat) (i_7 : Int) (Q : Value → Heap → Prop) (Kn7 : (ByteArray × (Option Addr) × Nat × Nat × Int) → Heap → Prop) (h : Heap) : Prop :=
  if (decide (i_7 < ((l_0n : Nat) : Int))) = true then (law25_LinesJoins_b9 l_0a l_0n l_0c returns_1 s_5 want_6a want_6n want_6c i_7 Q Kn7 h) else (law25_LinesJoins_b26 s_5 want_6a want_6n want_6c Q h)
def law25_LinesJoins_l7 (l_0a : Option Addr) (l_0n : Nat) (l_0c : Nat) (returns_1 : Bool) (Q : Value → Heap → Prop) (s_5 : ByteArray) (want_6a : Option Addr) (want_6n : Nat) (want_6c : Nat) (i_7 : Int) (h : Heap) (Kn7 : (ByteArray × (Option Addr) × Nat × Nat × Int) → Heap → Prop) : Prop :=
  law25_LinesJoins_b8 l_0a l_0n l_0c returns_1 s_5 want_6a want_6n want_6c i_7 Q Kn7 h
def law25_LinesJoins_b6 (l_0a : Option Addr) (l_0n : Nat) (l_0c : Nat) (returns_1 : Bool) (s_5 : ByteArray) (want_6a : Option Addr) (want_6n : Nat) (want_6c : Nat) (Q : Value → Heap → Prop) (h : Heap) : Prop :=
  LoopV (fun (s : ByteArray × (Option Addr) × Nat × Nat × Int) h Kn => law25_LinesJoins_l7 l_0a l_0n l_0c returns_1 Q s.1 s.2.1 s.2.2.1 s.2.2.2.1 s.2.2.2.2 h Kn) (s_5, want_6a, want_6n, want_6c, 0) h
def law25_LinesJoins_b5 (l_0a : Option Addr) (l_0n : Nat) (l_0c : Nat) (returns_1 : Bool) (s_5 : ByteArray) (Q : Value → Heap → Prop) (h : Heap) : Prop :=
  law25_LinesJoins_b6 l_0a l_0n l_0c returns_1 s_5 none 0 0 Q h
def law25_LinesJoins_b4 (l_0a : Option Addr) (l_0n : Nat) (l_0c : Nat) (returns_1 : Bool) (Q : Value → Heap → Prop) (h : Heap) : Prop :=
  law25_LinesJoins_b5 l_0a l_0n l_0c returns_1 (⟨#[]⟩ : ByteArray) Q h
def law25_LinesJoins_b2 (l_0a : Option Addr) (l_0n : Nat) (l_0c : Nat) (returns_1 : Bool) (Q : Value → Heap → Prop) (h : Heap) : Prop :=
  if (decide (((l_0n : Nat) : Int) > (40 : Int))) = true then (law25_LinesJoins_b3 Q h) else (law25_LinesJoins_b4 l_0a l_0n l_0c returns_1 Q h)
def law25_LinesJoins_b1 (l_0a : Option Addr) (l_0n : Nat) (l_0c : Nat) (returns_1 : Bool) (Q : Value → Heap → Prop) (h : Heap) : Prop :=
  law25_LinesJoins_b2 l_0a l_0n l_0c returns_1 Q h
def law25_LinesJoins_v (l_0a : Option Addr) (l_0n : Nat) (l_0c : Nat) (returns_1 : Bool) (Q : Value → Heap → Prop) (h : Heap) : Prop :=
  law25_LinesJoins_b1 l_0a l_0n l_0c returns_1 Q h
set_option maxRecDepth 100000 in
theorem law25_LinesJoins_e (l_0a : Option Addr) (l_0n : Nat) (l_0c : Nat) (returns_1 : Bool) (Q : Value → Heap → Prop) (h : Heap) (hk : law25_LinesJoins_v l_0a l_0n l_0c returns_1 Q h) :
    ∃ c, Try.f5.body = some c ∧ EWP Try.prog 78 c (fnPost Try.prog Try.f5 Q) (env0 #[Value.slice l_0a l_0n l_0c, Value.bool returns_1]) [] h := by
  refine ⟨_, rfl, ?_⟩
  have hk : law25_LinesJoins_b1 l_0a l_0n l_0c returns_1 Q h := hk
  have f0 : env0 #[Value.slice l_0a l_0n l_0c, Value.bool returns_1] 0 = Value.slice l_0a l_0n l_0c := rfl
  have f1 : env0 #[Value.slice l_0a l_0n l_0c, Value.bool returns_1] 1 = Value.bool returns_1 := rfl
  generalize env0 #[Value.slice l_0a l_0n l_0c, Value.bool returns_1] = e at *
  refine EWP.seqR (fun e h => law25_LinesJoins_b2 l_0a l_0n l_0c returns_1 Q h) ?_ ?_ ?_
  · kernel_rfl
  · skip
    exact eqMp (by as_aux_lemma => kernel_rfl : _ = law25_LinesJoins_b1 l_0a l_0n l_0c returns_1 Q h) hk
  · intro e h hp hk
    have f0 := (hp 0 (by kernel_rfl)).trans f0
    have f1 := (hp 1 (by kernel_rfl)).trans f1
    clear hp
    refine EWP.seqC (fun e h => e 0 = Value.slice l_0a l_0n l_0c ∧ e 1 = Value.bool returns_1 ∧ law25_LinesJoins_b4 l_0a l_0n l_0c returns_1 Q h) ?_ ?_
    · have he : upd e 0 (Value.slice l_0a l_0n l_0c) = e := by rw [upd_self f0]
      refine EWP.seqR (fun e h => dB (e 11) fun t11 => if t11 = true then (law25_LinesJoins_b3 Q h) else (law25_LinesJoins_b4 l_0a l_0n l_0c returns_1 Q h)) ?_ ?_ ?_
      · kernel_rfl
      · rw [← he]
        exact eqMp (by as_aux_lemma => kernel_rfl : _ = law25_LinesJoins_b2 l_0a l_0n l_0c returns_1 Q h) hk
      · intro e h hp hk
        have f0 := (hp 0 (by kernel_rfl)).trans f0
        have f1 := (hp 1 (by kernel_rfl)).trans f1
        clear hp
        obtain ⟨t11, f11, hk⟩ := dB_elim hk
        have fc : eev e (.tmp 11) = .bool t11 := f11
        refine EWP.condI fc hk ?_ ?_
        · intro hk
          refine EWP.seqR (fun e h => dB (e 4) fun t4 => Q (Value.bool t4) h) ?_ ?_ ?_
          · kernel_rfl
          · skip
            exact eqMp (by as_aux_lemma => kernel_rfl : _ = law25_LinesJoins_b3 Q h) hk
          · intro e h hp hk
            clear hp
            obtain ⟨t4, f4, hk⟩ := dB_elim hk
            refine EWP.ret ?_
            have he : upd e 4 (Value.bool t4) = e := by rw [upd_self f4]
            refine (show _ ∧ _ from ⟨rfl, ?_⟩)
            rw [← he]
            exact eqMp (by as_aux_lemma => kernel_rfl : _ = (Q (Value.bool t4) h)) hk
        · intro hk
          refine EWP.skip ?_
          exact (show _ ∧ _ from ⟨rfl, f0, f1, hk⟩)
    · rintro e h ⟨f0, f1, hk⟩
      refine EWP.seqR (fun e h => dS (e 5) fun s_5 => law25_LinesJoins_b5 l_0a l_0n l_0c returns_1 s_5 Q h) ?_ ?_ ?_
      · kernel_rfl
      · skip
        exact eqMp (by as_aux_lemma => kernel_rfl : _ = law25_LinesJoins_b4 l_0a l_0n l_0c returns_1 Q h) hk
      · intro e h hp hk
        have f0 := (hp 0 (by kernel_rfl)).trans f0
        have f1 := (hp 1 (by kernel_rfl)).trans f1
        clear hp
        obtain ⟨s_5, f5, hk⟩ := dS_elim hk
        refine EWP.seqR (fun e h => dL (e 6) fun want_6a want_6n want_6c => law25_LinesJoins_b6 l_0a l_0n l_0c returns_1 s_5 want_6a want_6n want_6c Q h) ?_ ?_ ?_
        · kernel_rfl
        · skip
          exact eqMp (by as_aux_lemma => kernel_rfl : _ = law25_LinesJoins_b5 l_0a l_0n l_0c returns_1 s_5 Q h) hk
        · intro e h hp hk
          have f0 := (hp 0 (by kernel_rfl)).trans f0
          have f1 := (hp 1 (by kernel_rfl)).trans f1
          have f5 := (hp 5 (by kernel_rfl)).trans f5
          clear hp
          obtain ⟨want_6a, want_6n, want_6c, f6, hk⟩ := dL_elim hk
          refine EWP.seqC (fun e h => dS (e 5) fun s_5 => dL (e 6) fun want_6a want_6n want_6c => law25_LinesJoins_b26 s_5 want_6a want_6n want_6c Q h) ?_ ?_
          · refine EWP.seqR (fun e h => dI .i64 (e 7) fun i_7 => LoopV (fun (s : ByteArray × (Option Addr) × Nat × Nat × Int) h Kn => law25_LinesJoins_l7 l_0a l_0n l_0c returns_1 Q s.1 s.2.1 s.2.2.1 s.2.2.2.1 s.2.2.2.2 h Kn) (s_5, want_6a, want_6n, want_6c, i_7) h) ?_ ?_ ?_
            · kernel_rfl
            · skip
              exact eqMp (by as_aux_lemma => kernel_rfl : _ = law25_LinesJoins_b6 l_0a l_0n l_0c returns_1 s_5 want_6a want_6n want_6c Q h) hk
            · intro e h hp hk
              have f0 := (hp 0 (by kernel_rfl)).trans f0
              have f1 := (hp 1 (by kernel_rfl)).trans f1
              have f5 := (hp 5 (by kernel_rfl)).trans f5
              have f6 := (hp 6 (by kernel_rfl)).trans f6
              clear hp
              obtain ⟨i_7, f7, hk⟩ := dI_elim hk
              refine EWP.block ?_
              refine EWP.loopV (fun e (s : ByteArray × (Option Addr) × Nat × Nat × Int) => e 0 = Value.slice l_0a l_0n l_0c ∧ e 1 = Value.bool returns_1 ∧ e 5 = Value.string s.1 ∧ e 6 = Value.slice s.2.1 s.2.2.1 s.2.2.2.1 ∧ e 7 = Value.int .i64 s.2.2.2.2) ⟨f0, f1, f5, f6, f7⟩ hk ?_
              rintro e ⟨s_5, want_6a, want_6n, want_6c, i_7⟩ h Kn7 ⟨f0, f1, f5, f6, f7⟩ hk
              have f5 : e 5 = Value.string s_5 := f5
              have f6 : e 6 = Value.slice want_6a want_6n want_6c := f6
              have f7 : e 7 = Value.int .i64 i_7 := f7
              have hk : law25_LinesJoins_l7 l_0a l_0n l_0c returns_1 Q s_5 want_6a want_6n want_6c i_7 h Kn7 := hk
              refine EWP.seqC (fun e h => e 0 = Value.slice l_0a l_0n l_0c ∧ e 1 = Value.bool returns_1 ∧ e 5 = Value.string s_5 ∧ e 6 = Value.slice want_6a want_6n want_6c ∧ e 7 = Value.int .i64 i_7 ∧ law25_LinesJoins_b9 l_0a l_0n l_0c returns_1 s_5 want_6a want_6n want_6c i_7 Q Kn7 h) ?_ ?_
              · have he : upd (upd e 0 (Value.slice l_0a l_0n l_0c)) 7 (Value.int .i64 i_7) = e := by rw [upd_self f0, upd_self f7]
                refine EWP.seqR (fun e h => dB (e 16) fun t16 => if t16 = true then (law25_LinesJoins_b9 l_0a l_0n l_0c returns_1 s_5 want_6a want_6n want_6c i_7 Q Kn7 h) else (law25_LinesJoins_b26 s_5 want_6a want_6n want_6c Q h)) ?_ ?_ ?_
                · kernel_rfl
                · rw [← he]
                  exact eqMp (by as_aux_lemma => kernel_rfl : _ = law25_LinesJoins_b8 l_0a l_0n l_0c returns_1 s_5 want_6a want_6n want_6c i_7 Q Kn7 h) hk
                · intro e h hp hk
                  have f0 := (hp 0 (by kernel_rfl)).trans f0
                  have f1 := (hp 1 (by kernel_rfl)).trans f1
                  have f5 := (hp 5 (by kernel_rfl)).trans f5
                  have f6 := (hp 6 (by kernel_rfl)).trans f6
                  have f7 := (hp 7 (by kernel_rfl)).trans f7
                  clear hp
                  obtain ⟨t16, f16, hk⟩ := dB_elim hk
                  have fc : eev e (.tmp 16) = .bool t16 := f16
                  refine EWP.condI fc hk ?_ ?_
                  · intro hk
                    refine EWP.skip ?_
                    exact (show _ ∧ _ from ⟨rfl, f0, f1, f5, f6, f7, hk⟩)
                  · intro hk
                    refine EWP.exit ?_
                    exact (show _ ∧ _ from ⟨rfl, dS_intro f5 (dL_intro f6 (hk))⟩)
              · rintro e h ⟨f0, f1, f5, f6, f7, hk⟩
                refine EWP.seqC (fun e h => e 0 = Value.slice l_0a l_0n l_0c ∧ e 1 = Value.bool returns_1 ∧ e 7 = Value.int .i64 i_7 ∧ dS (e 5) fun s_5 => dL (e 6) fun want_6a want_6n want_6c => law25_LinesJoins_b25 l_0a l_0n l_0c returns_1 s_5 want_6a want_6n want_6c i_7 Q Kn7 h) ?_ ?_
                · refine EWP.block ?_
                  refine EWP.seqC (fun e h => e 0 = Value.slice l_0a l_0n l_0c ∧ e 1 = Value.bool returns_1 ∧ e 5 = Value.string s_5 ∧ e 6 = Value.slice want_6a want_6n want_6c ∧ e 7 = Value.int .i64 i_7 ∧ law25_LinesJoins_b12 l_0a l_0n l_0c returns_1 s_5 want_6a want_6n want_6c i_7 Q Kn7 h) ?_ ?_
                  · have he : upd (upd e 0 (Value.slice l_0a l_0n l_0c)) 7 (Value.int .i64 i_7) = e := by rw [upd_self f0, upd_self f7]
                    refine EWP.seqR (fun e h => dB (e 24) fun t24 => if t24 = true then (law25_LinesJoins_b11 Q Kn7 h) else (law25_LinesJoins_b12 l_0a l_0n l_0c returns_1 s_5 want_6a want_6n want_6c i_7 Q Kn7 h)) ?_ ?_ ?_
                    · kernel_rfl
                    · rw [← he]
                      exact eqMp (by as_aux_lemma => kernel_rfl : _ = law25_LinesJoins_b10 l_0a l_0n l_0c returns_1 s_5 want_6a want_6n want_6c i_7 Q Kn7 h) hk
                    · intro e h hp hk
                      have f0 := (hp 0 (by kernel_rfl)).trans f0
                      have f1 := (hp 1 (by kernel_rfl)).trans f1
                      have f5 := (hp 5 (by kernel_rfl)).trans f5
                      have f6 := (hp 6 (by kernel_rfl)).trans f6
                      have f7 := (hp 7 (by kernel_rfl)).trans f7
                      clear hp
                      obtain ⟨t24, f24, hk⟩ := dB_elim hk
                      have fc : eev e (.tmp 24) = .bool t24 := f24
                      refine EWP.condI fc hk ?_ ?_
                      · intro hk
                        refine EWP.seqR (fun e h => dB (e 4) fun t4 => Q (Value.bool t4) h) ?_ ?_ ?_
                        · kernel_rfl
                        · skip
                          exact eqMp (by as_aux_lemma => kernel_rfl : _ = law25_LinesJoins_b11 Q Kn7 h) hk
                        · intro e h hp hk
                          clear hp
                          obtain ⟨t4, f4, hk⟩ := dB_elim hk
                          refine EWP.ret ?_
                          have he : upd e 4 (Value.bool t4) = e := by rw [upd_self f4]
                          refine (show _ ∧ _ from ⟨rfl, ?_⟩)
                          rw [← he]
                          exact eqMp (by as_aux_lemma => kernel_rfl : _ = (Q (Value.bool t4) h)) hk
                      · intro hk
                        refine EWP.skip ?_
                        exact (show _ ∧ _ from ⟨rfl, f0, f1, f5, f6, f7, hk⟩)
                  · rintro e h ⟨f0, f1, f5, f6, f7, hk⟩
                    refine EWP.seqC (fun e h => e 0 = Value.slice l_0a l_0n l_0c ∧ e 1 = Value.bool returns_1 ∧ e 5 = Value.string s_5 ∧ e 6 = Value.slice want_6a want_6n want_6c ∧ e 7 = Value.int .i64 i_7 ∧ law25_LinesJoins_b20 l_0a l_0n l_0c returns_1 s_5 want_6a want_6n want_6c i_7 Q Kn7 h) ?_ ?_
                    · refine EWP.seqR (fun e h => dI .i64 (e 8) fun k_8 => LoopV (fun (s : Int) h Kn => law25_LinesJoins_l14 l_0a l_0n l_0c returns_1 s_5 want_6a want_6n want_6c i_7 Q Kn7 s h Kn) k_8 h) ?_ ?_ ?_
                      · kernel_rfl
                      · skip
                        exact eqMp (by as_aux_lemma => kernel_rfl : _ = law25_LinesJoins_b13 l_0a l_0n l_0c returns_1 s_5 want_6a want_6n want_6c i_7 Q Kn7 h) hk
                      · intro e h hp hk
                        have f0 := (hp 0 (by kernel_rfl)).trans f0
                        have f1 := (hp 1 (by kernel_rfl)).trans f1
                        have f5 := (hp 5 (by kernel_rfl)).trans f5
                        have f6 := (hp 6 (by kernel_rfl)).trans f6
                        have f7 := (hp 7 (by kernel_rfl)).trans f7
                        clear hp
                        obtain ⟨k_8, f8, hk⟩ := dI_elim hk
                        refine EWP.block ?_
                        refine EWP.loopV (fun e (s : Int) => e 0 = Value.slice l_0a l_0n l_0c ∧ e 1 = Value.bool returns_1 ∧ e 5 = Value.string s_5 ∧ e 6 = Value.slice want_6a want_6n want_6c ∧ e 7 = Value.int .i64 i_7 ∧ e 8 = Value.int .i64 s) ⟨f0, f1, f5, f6, f7, f8⟩ hk ?_
                        rintro e k_8 h Kn14 ⟨f0, f1, f5, f6, f7, f8⟩ hk
                        have f8 : e 8 = Value.int .i64 k_8 := f8
                        have hk : law25_LinesJoins_l14 l_0a l_0n l_0c returns_1 s_5 want_6a want_6n want_6c i_7 Q Kn7 k_8 h Kn14 := hk
                        refine EWP.seqC (fun e h => e 0 = Value.slice l_0a l_0n l_0c ∧ e 1 = Value.bool returns_1 ∧ e 5 = Value.string s_5 ∧ e 6 = Value.slice want_6a want_6n want_6c ∧ e 7 = Value.int .i64 i_7 ∧ e 8 = Value.int .i64 k_8 ∧ law25_LinesJoins_b16 l_0a l_0n l_0c returns_1 s_5 want_6a want_6n want_6c i_7 k_8 Q Kn7 Kn14 h) ?_ ?_
                        · have he : upd (upd (upd e 0 (Value.slice l_0a l_0n l_0c)) 7 (Value.int .i64 i_7)) 8 (Value.int .i64 k_8) = e := by rw [upd_self f0, upd_self f7, upd_self f8]
                          refine EWP.seqR (fun e h => dB (e 32) fun t32 => if t32 = true then (law25_LinesJoins_b16 l_0a l_0n l_0c returns_1 s_5 want_6a want_6n want_6c i_7 k_8 Q Kn7 Kn14 h) else (law25_LinesJoins_b20 l_0a l_0n l_0c returns_1 s_5 want_6a want_6n want_6c i_7 Q Kn7 h)) ?_ ?_ ?_
                          · kernel_rfl
                          · rw [← he]
                            exact eqMp (by as_aux_lemma => kernel_rfl : _ = law25_LinesJoins_b15 l_0a l_0n l_0c returns_1 s_5 want_6a want_6n want_6c i_7 k_8 Q Kn7 Kn14 h) hk
                          · intro e h hp hk
                            have f0 := (hp 0 (by kernel_rfl)).trans f0
                            have f1 := (hp 1 (by kernel_rfl)).trans f1
                            have f5 := (hp 5 (by kernel_rfl)).trans f5
                            have f6 := (hp 6 (by kernel_rfl)).trans f6
                            have f7 := (hp 7 (by kernel_rfl)).trans f7
                            have f8 := (hp 8 (by kernel_rfl)).trans f8
                            clear hp
                            obtain ⟨t32, f32, hk⟩ := dB_elim hk
                            have fc : eev e (.tmp 32) = .bool t32 := f32
                            refine EWP.condI fc hk ?_ ?_
                            · intro hk
                              refine EWP.skip ?_
                              exact (show _ ∧ _ from ⟨rfl, f0, f1, f5, f6, f7, f8, hk⟩)
                            · intro hk
                              refine EWP.exit ?_
                              exact (show _ ∧ _ from ⟨rfl, f0, f1, f5, f6, f7, hk⟩)
                        · rintro e h ⟨f0, f1, f5, f6, f7, f8, hk⟩
                          refine EWP.seqC (fun e h => e 0 = Value.slice l_0a l_0n l_0c ∧ e 1 = Value.bool returns_1 ∧ e 5 = Value.string s_5 ∧ e 6 = Value.slice want_6a want_6n want_6c ∧ e 7 = Value.int .i64 i_7 ∧ e 8 = Value.int .i64 k_8 ∧ law25_LinesJoins_b19 l_0a l_0n l_0c returns_1 s_5 want_6a want_6n want_6c i_7 k_8 Q Kn7 Kn14 h) ?_ ?_
                          · refine EWP.block ?_
                            have he : upd (upd (upd e 0 (Value.slice l_0a l_0n l_0c)) 7 (Value.int .i64 i_7)) 8 (Value.int .i64 k_8) = e := by rw [upd_self f0, upd_self f7, upd_self f8]
                            refine EWP.seqR (fun e h => dB (e 50) fun t50 => if t50 = true then (law25_LinesJoins_b18 Q Kn7 Kn14 h) else (law25_LinesJoins_b19 l_0a l_0n l_0c returns_1 s_5 want_6a want_6n want_6c i_7 k_8 Q Kn7 Kn14 h)) ?_ ?_ ?_
                            · kernel_rfl
                            · rw [← he]
                              exact eqMp (by as_aux_lemma => kernel_rfl : _ = law25_LinesJoins_b17 l_0a l_0n l_0c returns_1 s_5 want_6a want_6n want_6c i_7 k_8 Q Kn7 Kn14 h) hk
                            · intro e h hp hk
                              have f0 := (hp 0 (by kernel_rfl)).trans f0
                              have f1 := (hp 1 (by kernel_rfl)).trans f1
                              have f5 := (hp 5 (by kernel_rfl)).trans f5
                              have f6 := (hp 6 (by kernel_rfl)).trans f6
                              have f7 := (hp 7 (by kernel_rfl)).trans f7
                              have f8 := (hp 8 (by kernel_rfl)).trans f8
                              clear hp
                              obtain ⟨t50, f50, hk⟩ := dB_elim hk
                              have fc : eev e (.tmp 50) = .bool t50 := f50
                              refine EWP.condI fc hk ?_ ?_
                              · intro hk
                                refine EWP.seqR (fun e h => dB (e 4) fun t4 => Q (Value.bool t4) h) ?_ ?_ ?_
                                · kernel_rfl
                                · skip
                                  exact eqMp (by as_aux_lemma => kernel_rfl : _ = law25_LinesJoins_b18 Q Kn7 Kn14 h) hk
                                · intro e h hp hk
                                  clear hp
                                  obtain ⟨t4, f4, hk⟩ := dB_elim hk
                                  refine EWP.ret ?_
                                  have he : upd e 4 (Value.bool t4) = e := by rw [upd_self f4]
                                  refine (show _ ∧ _ from ⟨rfl, ?_⟩)
                                  rw [← he]
                                  exact eqMp (by as_aux_lemma => kernel_rfl : _ = (Q (Value.bool t4) h)) hk
                              · intro hk
                                refine EWP.skip ?_
                                exact (show _ ∧ _ from ⟨rfl, f0, f1, f5, f6, f7, f8, hk⟩)
                          · rintro e h ⟨f0, f1, f5, f6, f7, f8, hk⟩
                            have he : upd e 8 (Value.int .i64 k_8) = e := by rw [upd_self f8]
                            refine EWP.regionN (fun e h => dI .i64 (e 8) fun k_8 => Kn14 (k_8) h) ?_ ?_ ?_
                            · kernel_rfl
                            · rw [← he]
                              exact eqMp (by as_aux_lemma => kernel_rfl : _ = law25_LinesJoins_b19 l_0a l_0n l_0c returns_1 s_5 want_6a want_6n want_6c i_7 k_8 Q Kn7 Kn14 h) hk
                            · intro e h hp hk
                              have f0 := (hp 0 (by kernel_rfl)).trans f0
                              have f1 := (hp 1 (by kernel_rfl)).trans f1
                              have f5 := (hp 5 (by kernel_rfl)).trans f5
                              have f6 := (hp 6 (by kernel_rfl)).trans f6
                              have f7 := (hp 7 (by kernel_rfl)).trans f7
                              clear hp
                              obtain ⟨k_8, f8, hk⟩ := dI_elim hk
                              exact (show _ ∧ _ from ⟨rfl, k_8, ⟨f0, f1, f5, f6, f7, f8⟩, hk⟩)
                    · rintro e h ⟨f0, f1, f5, f6, f7, hk⟩
                      have he : upd (upd (upd e 0 (Value.slice l_0a l_0n l_0c)) 5 (Value.string s_5)) 7 (Value.int .i64 i_7) = e := by rw [upd_self f0, upd_self f5, upd_self f7]
                      refine EWP.seqR (fun e h => dS (e 5) fun s_5 => law25_LinesJoins_b21 l_0a l_0n l_0c returns_1 s_5 want_6a want_6n want_6c i_7 Q Kn7 h) ?_ ?_ ?_
                      · kernel_rfl
                      · rw [← he]
                        exact eqMp (by as_aux_lemma => kernel_rfl : _ = law25_LinesJoins_b20 l_0a l_0n l_0c returns_1 s_5 want_6a want_6n want_6c i_7 Q Kn7 h) hk
                      · intro e h hp hk
                        have f0 := (hp 0 (by kernel_rfl)).trans f0
                        have f1 := (hp 1 (by kernel_rfl)).trans f1
                        have f6 := (hp 6 (by kernel_rfl)).trans f6
                        have f7 := (hp 7 (by kernel_rfl)).trans f7
                        clear hp
                        obtain ⟨s_5, f5, hk⟩ := dS_elim hk
                        refine EWP.seqC (fun e h => e 0 = Value.slice l_0a l_0n l_0c ∧ e 1 = Value.bool returns_1 ∧ e 6 = Value.slice want_6a want_6n want_6c ∧ e 7 = Value.int .i64 i_7 ∧ dS (e 5) fun s_5 => law25_LinesJoins_b23 l_0a l_0n l_0c returns_1 s_5 want_6a want_6n want_6c i_7 Q Kn7 h) ?_ ?_
                        · have he : upd e 1 (Value.bool returns_1) = e := by rw [upd_self f1]
                          refine EWP.seqR (fun e h => dB (e 58) fun t58 => if t58 = true then (law25_LinesJoins_b22 l_0a l_0n l_0c returns_1 s_5 want_6a want_6n want_6c i_7 Q Kn7 h) else (law25_LinesJoins_b23 l_0a l_0n l_0c returns_1 s_5 want_6a want_6n want_6c i_7 Q Kn7 h)) ?_ ?_ ?_
                          · kernel_rfl
                          · rw [← he]
                            exact eqMp (by as_aux_lemma => kernel_rfl : _ = law25_LinesJoins_b21 l_0a l_0n l_0c returns_1 s_5 want_6a want_6n want_6c i_7 Q Kn7 h) hk
                          · intro e h hp hk
                            have f0 := (hp 0 (by kernel_rfl)).trans f0
                            have f1 := (hp 1 (by kernel_rfl)).trans f1
                            have f5 := (hp 5 (by kernel_rfl)).trans f5
                            have f6 := (hp 6 (by kernel_rfl)).trans f6
                            have f7 := (hp 7 (by kernel_rfl)).trans f7
                            clear hp
                            obtain ⟨t58, f58, hk⟩ := dB_elim hk
                            have fc : eev e (.tmp 58) = .bool t58 := f58
                            refine EWP.condI fc hk ?_ ?_
                            · intro hk
                              have he : upd e 5 (Value.string s_5) = e := by rw [upd_self f5]
                              refine EWP.regionN (fun e h => dS (e 5) fun s_5 => law25_LinesJoins_b23 l_0a l_0n l_0c returns_1 s_5 want_6a want_6n want_6c i_7 Q Kn7 h) ?_ ?_ ?_
                              · kernel_rfl
                              · rw [← he]
                                exact eqMp (by as_aux_lemma => kernel_rfl : _ = law25_LinesJoins_b22 l_0a l_0n l_0c returns_1 s_5 want_6a want_6n want_6c i_7 Q Kn7 h) hk
                              · intro e h hp hk
                                have f0 := (hp 0 (by kernel_rfl)).trans f0
                                have f1 := (hp 1 (by kernel_rfl)).trans f1
                                have f6 := (hp 6 (by kernel_rfl)).trans f6
                                have f7 := (hp 7 (by kernel_rfl)).trans f7
                                clear hp
                                obtain ⟨s_5, f5, hk⟩ := dS_elim hk
                                exact (show _ ∧ _ from ⟨rfl, f0, f1, f6, f7, dS_intro f5 (hk)⟩)
                            · intro hk
                              refine EWP.skip ?_
                              exact (show _ ∧ _ from ⟨rfl, f0, f1, f6, f7, dS_intro f5 (hk)⟩)
                        · rintro e h ⟨f0, f1, f6, f7, hk⟩
                          obtain ⟨s_5, f5, hk⟩ := dS_elim hk
                          have he : upd e 5 (Value.string s_5) = e := by rw [upd_self f5]
                          refine EWP.seqR (fun e h => dS (e 5) fun s_5 => law25_LinesJoins_b24 l_0a l_0n l_0c returns_1 s_5 want_6a want_6n want_6c i_7 Q Kn7 h) ?_ ?_ ?_
                          · kernel_rfl
                          · rw [← he]
                            exact eqMp (by as_aux_lemma => kernel_rfl : _ = law25_LinesJoins_b23 l_0a l_0n l_0c returns_1 s_5 want_6a want_6n want_6c i_7 Q Kn7 h) hk
                          · intro e h hp hk
                            have f0 := (hp 0 (by kernel_rfl)).trans f0
                            have f1 := (hp 1 (by kernel_rfl)).trans f1
                            have f6 := (hp 6 (by kernel_rfl)).trans f6
                            have f7 := (hp 7 (by kernel_rfl)).trans f7
                            clear hp
                            obtain ⟨s_5, f5, hk⟩ := dS_elim hk
                            have he : upd (upd (upd e 0 (Value.slice l_0a l_0n l_0c)) 6 (Value.slice want_6a want_6n want_6c)) 7 (Value.int .i64 i_7) = e := by rw [upd_self f0, upd_self f6, upd_self f7]
                            refine EWP.regionN (fun e h => dL (e 6) fun want_6a want_6n want_6c => law25_LinesJoins_b25 l_0a l_0n l_0c returns_1 s_5 want_6a want_6n want_6c i_7 Q Kn7 h) ?_ ?_ ?_
                            · kernel_rfl
                            · rw [← he]
                              exact eqMp (by as_aux_lemma => kernel_rfl : _ = law25_LinesJoins_b24 l_0a l_0n l_0c returns_1 s_5 want_6a want_6n want_6c i_7 Q Kn7 h) hk
                            · intro e h hp hk
                              have f0 := (hp 0 (by kernel_rfl)).trans f0
                              have f1 := (hp 1 (by kernel_rfl)).trans f1
                              have f5 := (hp 5 (by kernel_rfl)).trans f5
                              have f7 := (hp 7 (by kernel_rfl)).trans f7
                              clear hp
                              obtain ⟨want_6a, want_6n, want_6c, f6, hk⟩ := dL_elim hk
                              exact (show _ ∧ _ from ⟨rfl, f0, f1, f7, dS_intro f5 (dL_intro f6 (hk))⟩)
                · rintro e h ⟨f0, f1, f7, hk⟩
                  obtain ⟨s_5, f5, hk⟩ := dS_elim hk
                  obtain ⟨want_6a, want_6n, want_6c, f6, hk⟩ := dL_elim hk
                  have he : upd e 7 (Value.int .i64 i_7) = e := by rw [upd_self f7]
                  refine EWP.regionN (fun e h => dI .i64 (e 7) fun i_7 => Kn7 (s_5, want_6a, want_6n, want_6c, i_7) h) ?_ ?_ ?_
                  · kernel_rfl
                  · rw [← he]
                    exact eqMp (by as_aux_lemma => kernel_rfl : _ = law25_LinesJoins_b25 l_0a l_0n l_0c returns_1 s_5 want_6a want_6n want_6c i_7 Q Kn7 h) hk
                  · intro e h hp hk
                    have f0 := (hp 0 (by kernel_rfl)).trans f0
                    have f1 := (hp 1 (by kernel_rfl)).trans f1
                    have f5 := (hp 5 (by kernel_rfl)).trans f5
                    have f6 := (hp 6 (by kernel_rfl)).trans f6
                    clear hp
                    obtain ⟨i_7, f7, hk⟩ := dI_elim hk
                    exact (show _ ∧ _ from ⟨rfl, (s_5, want_6a, want_6n, want_6c, i_7), ⟨f0, f1, f5, f6, f7⟩, hk⟩)
          · rintro e h hk
            obtain ⟨s_5, f5, hk⟩ := dS_elim hk
            obtain ⟨want_6a, want_6n, want_6c, f6, hk⟩ := dL_elim hk
            have he : upd (upd e 5 (Value.string s_5)) 6 (Value.slice want_6a want_6n want_6c) = e := by rw [upd_self f5, upd_self f6]
            refine EWP.seqR (fun e h => dB (e 4) fun t4 => Q (Value.bool t4) h) ?_ ?_ ?_
            · kernel_rfl
            · rw [← he]
              exact eqMp (by as_aux_lemma => kernel_rfl : _ = law25_LinesJoins_b26 s_5 want_6a want_6n want_6c Q h) hk
            · intro e h hp hk
              clear hp
              obtain ⟨t4, f4, hk⟩ := dB_elim hk
              refine EWP.ret ?_
              have he : upd e 4 (Value.bool t4) = e := by rw [upd_self f4]
              refine (show _ ∧ _ from ⟨rfl, ?_⟩)
              rw [← he]
              exact eqMp (by as_aux_lemma => kernel_rfl : _ = (Q (Value.bool t4) h)) hk
theorem law25_LinesJoins_s (l_0a : Option Addr) (l_0n : Nat) (l_0c : Nat) (returns_1 : Bool) {Q : Value → Heap → Prop} {h : Heap} (hk : law25_LinesJoins_v l_0a l_0n l_0c returns_1 Q h) : CallT Try.prog fn_law25_LinesJoins #[Value.slice l_0a l_0n l_0c, Value.bool returns_1] h Q := by
  obtain ⟨c, hb, he⟩ := law25_LinesJoins_e l_0a l_0n l_0c returns_1 Q h hk
  exact callT_of (N := 78) Try.func5 hb rfl (Try.call5 _) (Nat.le_of_ble_eq_true rfl) he
/-! ### intrusion/intrusionlaw25.awake -/
def law25_awake_b4 (Q : Value → Heap → Prop) (h : Heap) : Prop :=
  Q (Value.bool false) h
def law25_awake_b5 (Q : Value → Heap → Prop) (h : Heap) : Prop :=
  CallT Try.prog fn_lines_Split #[Value.string (⟨#[97, 98, 13, 13, 10, 10, 97, 98, 99, 100]⟩ : ByteArray), Value.int .i64 (3 : Int)] h fun v h5 => ∃ t21a : Option Addr, ∃ t21n : Nat, ∃ t21c : Nat, v = Value.slice t21a t21n t21c ∧ alV h5 (.cells #[Value.string (⟨#[97, 98, 13]⟩ : ByteArray), Value.bool false, Value.string (⟨#[]⟩ : ByteArray), Value.bool false, Value.string (⟨#[97, 98, 99]⟩ : ByteArray), Value.bool true] 38) fun t25 h6 => CallT Try.prog fn_ref25_Same #[Value.slice t21a t21n t21c, Value.slice (some t25) 3 3] h6 fun v h7 => ∃ t26 : Bool, v = Value.bool t26 ∧ Q (Value.bool t26) h7
def law25_awake_b3 (p_1 : Option Addr) (Q : Value → Heap → Prop) (h : Heap) : Prop :=
  if (Option.isNone p_1) = true then (law25_awake_b4 Q h) else (CallT Try.prog fn_lines_Splitter_Feed #[Value.pointer p_1, Value.string (⟨#[97, 98, 99, 13]⟩ : ByteArray)] h fun v h2 => ∃ t7a : Option Addr, ∃ t7n : Nat, ∃ t7c : Nat, v = Value.slice t7a t7n t7c ∧ if (((t7n : Nat) : Int) != (0 : Int)) = true then (law25_awake_b4 Q h2) else (CallT Try.prog fn_lines_Splitter_Rest #[Value.pointer p_1] h2 fun v h3 => ∃ t13 : ByteArray, v = Value.string t13 ∧ if (!(t13.toList == (⟨#[97, 98]⟩ : ByteArray).toList)) = true then (law25_awake_b4 Q h3) else (CallT Try.prog fn_lines_Splitter_Take #[Value.pointer p_1] h3 fun v h4 => ∃ t18 : ByteArray, v = Value.string t18 ∧ if (!(t18.toList == (⟨#[97, 98, 99]⟩ : ByteArray).toList)) = true then (law25_awake_b4 Q h4) else (law25_awake_b5 Q h4))))
def law25_awake_b2 (Q : Value → Heap → Prop) (h : Heap) : Prop :=
  CallT Try.prog fn_lines_New #[Value.int .i64 (2 : Int)] h fun v h1 => ∃ t2 : Option Addr, v = Value.pointer t2 ∧ law25_awake_b3 t2 Q h1
def law25_awake_b1 (Q : Value → Heap → Prop) (h : Heap) : Prop :=
  law25_awake_b2 Q h
def law25_awake_v (Q : Value → Heap → Prop) (h : Heap) : Prop :=
  law25_awake_b1 Q h
set_option maxRecDepth 100000 in
theorem law25_awake_e (Q : Value → Heap → Prop) (h : Heap) (hk : law25_awake_v Q h) :
    ∃ c, Try.f6.body = some c ∧ EWP Try.prog 27 c (fnPost Try.prog Try.f6 Q) (env0 #[]) [] h := by
  refine ⟨_, rfl, ?_⟩
  have hk : law25_awake_b1 Q h := hk
  generalize env0 #[] = e at *
  refine EWP.seqR (fun e h => law25_awake_b2 Q h) ?_ ?_ ?_
  · kernel_rfl
  · skip
    exact eqMp (by as_aux_lemma => kernel_rfl : _ = law25_awake_b1 Q h) hk
  · intro e h hp hk
    clear hp
    refine EWP.seqR (fun e h => dP (e 1) fun p_1 => law25_awake_b3 p_1 Q h) ?_ ?_ ?_
    · kernel_rfl
    · skip
      exact eqMp (by as_aux_lemma => kernel_rfl : _ = law25_awake_b2 Q h) hk
    · intro e h hp hk
      clear hp
      obtain ⟨p_1, f1, hk⟩ := dP_elim hk
      refine EWP.seqC (fun e h => law25_awake_b5 Q h) ?_ ?_
      · have he : upd e 1 (Value.pointer p_1) = e := by rw [upd_self f1]
        refine EWP.seqR (fun e h => dB (e 20) fun t20 => if t20 = true then (law25_awake_b4 Q h) else (law25_awake_b5 Q h)) ?_ ?_ ?_
        · kernel_rfl
        · rw [← he]
          exact eqMp (by as_aux_lemma => kernel_rfl : _ = law25_awake_b3 p_1 Q h) hk
        · intro e h hp hk
          clear hp
          obtain ⟨t20, f20, hk⟩ := dB_elim hk
          have fc : eev e (.tmp 20) = .bool t20 := f20
          refine EWP.condI fc hk ?_ ?_
          · intro hk
            refine EWP.seqR (fun e h => dB (e 0) fun t0 => Q (Value.bool t0) h) ?_ ?_ ?_
            · kernel_rfl
            · skip
              exact eqMp (by as_aux_lemma => kernel_rfl : _ = law25_awake_b4 Q h) hk
            · intro e h hp hk
              clear hp
              obtain ⟨t0, f0, hk⟩ := dB_elim hk
              refine EWP.ret ?_
              have he : upd e 0 (Value.bool t0) = e := by rw [upd_self f0]
              refine (show _ ∧ _ from ⟨rfl, ?_⟩)
              rw [← he]
              exact eqMp (by as_aux_lemma => kernel_rfl : _ = (Q (Value.bool t0) h)) hk
          · intro hk
            refine EWP.skip ?_
            exact (show _ ∧ _ from ⟨rfl, hk⟩)
      · rintro e h hk
        refine EWP.seqR (fun e h => dB (e 0) fun t0 => Q (Value.bool t0) h) ?_ ?_ ?_
        · kernel_rfl
        · skip
          exact eqMp (by as_aux_lemma => kernel_rfl : _ = law25_awake_b5 Q h) hk
        · intro e h hp hk
          clear hp
          obtain ⟨t0, f0, hk⟩ := dB_elim hk
          refine EWP.ret ?_
          have he : upd e 0 (Value.bool t0) = e := by rw [upd_self f0]
          refine (show _ ∧ _ from ⟨rfl, ?_⟩)
          rw [← he]
          exact eqMp (by as_aux_lemma => kernel_rfl : _ = (Q (Value.bool t0) h)) hk
theorem law25_awake_s {Q : Value → Heap → Prop} {h : Heap} (hk : law25_awake_v Q h) : CallT Try.prog fn_law25_awake #[] h Q := by
  obtain ⟨c, hb, he⟩ := law25_awake_e Q h hk
  exact callT_of (N := 27) Try.func6 hb rfl (Try.call6 _) (Nat.le_of_ble_eq_true rfl) he
/-! ### intrusion/lines.New -/
def lines_New_b2 (max_0 : Int) (Q : Value → Heap → Prop) (h : Heap) : Prop :=
  CallT Try.prog fn_lines_bound #[Value.int .i64 max_0] h fun v h1 => ∃ t4 : Int, v = Value.int .i64 t4 ∧ alV h1 (.cells #[Value.int .i64 t4, Value.slice none 0 0, Value.int .i64 (0 : Int), Value.bool false] 45) fun t6 h2 => Q (Value.pointer (some t6)) h2
def lines_New_b1 (max_0 : Int) (Q : Value → Heap → Prop) (h : Heap) : Prop :=
  lines_New_b2 max_0 Q h
def lines_New_v (max_0 : Int) (Q : Value → Heap → Prop) (h : Heap) : Prop :=
  lines_New_b1 max_0 Q h
set_option maxRecDepth 100000 in
theorem lines_New_e (max_0 : Int) (Q : Value → Heap → Prop) (h : Heap) (hk : lines_New_v max_0 Q h) :
    ∃ c, Try.f7.body = some c ∧ EWP Try.prog 7 c (fnPost Try.prog Try.f7 Q) (env0 #[Value.int .i64 max_0]) [] h := by
  refine ⟨_, rfl, ?_⟩
  have hk : lines_New_b1 max_0 Q h := hk
  have f0 : env0 #[Value.int .i64 max_0] 0 = Value.int .i64 max_0 := rfl
  generalize env0 #[Value.int .i64 max_0] = e at *
  refine EWP.seqR (fun e h => lines_New_b2 max_0 Q h) ?_ ?_ ?_
  · kernel_rfl
  · skip
    exact eqMp (by as_aux_lemma => kernel_rfl : _ = lines_New_b1 max_0 Q h) hk
  · intro e h hp hk
    have f0 := (hp 0 (by kernel_rfl)).trans f0
    clear hp
    have he : upd e 0 (Value.int .i64 max_0) = e := by rw [upd_self f0]
    refine EWP.seqR (fun e h => dA (e 2) fun t2 => Q (Value.pointer (some t2)) h) ?_ ?_ ?_
    · kernel_rfl
    · rw [← he]
      exact eqMp (by as_aux_lemma => kernel_rfl : _ = lines_New_b2 max_0 Q h) hk
    · intro e h hp hk
      clear hp
      obtain ⟨t2, f2, hk⟩ := dA_elim hk
      refine EWP.ret ?_
      have he : upd e 2 (Value.pointer (some t2)) = e := by rw [upd_self f2]
      refine (show _ ∧ _ from ⟨rfl, ?_⟩)
      rw [← he]
      exact eqMp (by as_aux_lemma => kernel_rfl : _ = (Q (Value.pointer (some t2)) h)) hk
theorem lines_New_s (max_0 : Int) {Q : Value → Heap → Prop} {h : Heap} (hk : lines_New_v max_0 Q h) : CallT Try.prog fn_lines_New #[Value.int .i64 max_0] h Q := by
  obtain ⟨c, hb, he⟩ := lines_New_e max_0 Q h hk
  exact callT_of (N := 7) Try.func7 hb rfl (Try.call7 _) (Nat.le_of_ble_eq_true rfl) he
/-! ### intrusion/intrusionref25.New -/
def ref25_New_b7 (max_0 : Int) (Q : Value → Heap → Prop) (h : Heap) : Prop :=
  alV h (.cells #[Value.int .i64 max_0, Value.string (⟨#[]⟩ : ByteArray)] 47) fun t9 h1 => Q (Value.pointer (some t9)) h1
def ref25_New_b6 (Q : Value → Heap → Prop) (h : Heap) : Prop :=
  ref25_New_b7 512 Q h
def ref25_New_b5 (max_0 : Int) (Q : Value → Heap → Prop) (h : Heap) : Prop :=
  if (decide (max_0 > (512 : Int))) = true then (ref25_New_b6 Q h) else (ref25_New_b7 max_0 Q h)
def ref25_New_b4 (max_0 : Int) (Q : Value → Heap → Prop) (h : Heap) : Prop :=
  ref25_New_b5 max_0 Q h
def ref25_New_b3 (Q : Value → Heap → Prop) (h : Heap) : Prop :=
  ref25_New_b4 1 Q h
def ref25_New_b2 (max_0 : Int) (Q : Value → Heap → Prop) (h : Heap) : Prop :=
  if (decide (max_0 < (1 : Int))) = true then (ref25_New_b3 Q h) else (ref25_New_b4 max_0 Q h)
def ref25_New_b1 (max_0 : Int) (Q : Value → Heap → Prop) (h : Heap) : Prop :=
  ref25_New_b2 max_0 Q h
def ref25_New_v (max_0 : Int) (Q : Value → Heap → Prop) (h : Heap) : Prop :=
  ref25_New_b1 max_0 Q h
set_option maxRecDepth 100000 in
theorem ref25_New_e (max_0 : Int) (Q : Value → Heap → Prop) (h : Heap) (hk : ref25_New_v max_0 Q h) :
    ∃ c, Try.f8.body = some c ∧ EWP Try.prog 10 c (fnPost Try.prog Try.f8 Q) (env0 #[Value.int .i64 max_0]) [] h := by
  refine ⟨_, rfl, ?_⟩
  have hk : ref25_New_b1 max_0 Q h := hk
  have f0 : env0 #[Value.int .i64 max_0] 0 = Value.int .i64 max_0 := rfl
  generalize env0 #[Value.int .i64 max_0] = e at *
  refine EWP.seqR (fun e h => ref25_New_b2 max_0 Q h) ?_ ?_ ?_
  · kernel_rfl
  · skip
    exact eqMp (by as_aux_lemma => kernel_rfl : _ = ref25_New_b1 max_0 Q h) hk
  · intro e h hp hk
    have f0 := (hp 0 (by kernel_rfl)).trans f0
    clear hp
    refine EWP.seqC (fun e h => dI .i64 (e 0) fun max_0 => ref25_New_b4 max_0 Q h) ?_ ?_
    · have he : upd e 0 (Value.int .i64 max_0) = e := by rw [upd_self f0]
      refine EWP.seqR (fun e h => dB (e 4) fun t4 => if t4 = true then (ref25_New_b3 Q h) else (ref25_New_b4 max_0 Q h)) ?_ ?_ ?_
      · kernel_rfl
      · rw [← he]
        exact eqMp (by as_aux_lemma => kernel_rfl : _ = ref25_New_b2 max_0 Q h) hk
      · intro e h hp hk
        have f0 := (hp 0 (by kernel_rfl)).trans f0
        clear hp
        obtain ⟨t4, f4, hk⟩ := dB_elim hk
        have fc : eev e (.tmp 4) = .bool t4 := f4
        refine EWP.condI fc hk ?_ ?_
        · intro hk
          refine EWP.regionN (fun e h => dI .i64 (e 0) fun max_0 => ref25_New_b4 max_0 Q h) ?_ ?_ ?_
          · kernel_rfl
          · skip
            exact eqMp (by as_aux_lemma => kernel_rfl : _ = ref25_New_b3 Q h) hk
          · intro e h hp hk
            clear hp
            obtain ⟨max_0, f0, hk⟩ := dI_elim hk
            exact (show _ ∧ _ from ⟨rfl, dI_intro f0 (hk)⟩)
        · intro hk
          refine EWP.skip ?_
          exact (show _ ∧ _ from ⟨rfl, dI_intro f0 (hk)⟩)
    · rintro e h hk
      obtain ⟨max_0, f0, hk⟩ := dI_elim hk
      refine EWP.seqC (fun e h => dI .i64 (e 0) fun max_0 => ref25_New_b7 max_0 Q h) ?_ ?_
      · have he : upd e 0 (Value.int .i64 max_0) = e := by rw [upd_self f0]
        refine EWP.seqR (fun e h => dB (e 6) fun t6 => if t6 = true then (ref25_New_b6 Q h) else (ref25_New_b7 max_0 Q h)) ?_ ?_ ?_
        · kernel_rfl
        · rw [← he]
          exact eqMp (by as_aux_lemma => kernel_rfl : _ = ref25_New_b5 max_0 Q h) hk
        · intro e h hp hk
          have f0 := (hp 0 (by kernel_rfl)).trans f0
          clear hp
          obtain ⟨t6, f6, hk⟩ := dB_elim hk
          have fc : eev e (.tmp 6) = .bool t6 := f6
          refine EWP.condI fc hk ?_ ?_
          · intro hk
            refine EWP.regionN (fun e h => dI .i64 (e 0) fun max_0 => ref25_New_b7 max_0 Q h) ?_ ?_ ?_
            · kernel_rfl
            · skip
              exact eqMp (by as_aux_lemma => kernel_rfl : _ = ref25_New_b6 Q h) hk
            · intro e h hp hk
              clear hp
              obtain ⟨max_0, f0, hk⟩ := dI_elim hk
              exact (show _ ∧ _ from ⟨rfl, dI_intro f0 (hk)⟩)
          · intro hk
            refine EWP.skip ?_
            exact (show _ ∧ _ from ⟨rfl, dI_intro f0 (hk)⟩)
      · rintro e h hk
        obtain ⟨max_0, f0, hk⟩ := dI_elim hk
        have he : upd e 0 (Value.int .i64 max_0) = e := by rw [upd_self f0]
        refine EWP.seqR (fun e h => dA (e 2) fun t2 => Q (Value.pointer (some t2)) h) ?_ ?_ ?_
        · kernel_rfl
        · rw [← he]
          exact eqMp (by as_aux_lemma => kernel_rfl : _ = ref25_New_b7 max_0 Q h) hk
        · intro e h hp hk
          clear hp
          obtain ⟨t2, f2, hk⟩ := dA_elim hk
          refine EWP.ret ?_
          have he : upd e 2 (Value.pointer (some t2)) = e := by rw [upd_self f2]
          refine (show _ ∧ _ from ⟨rfl, ?_⟩)
          rw [← he]
          exact eqMp (by as_aux_lemma => kernel_rfl : _ = (Q (Value.pointer (some t2)) h)) hk
theorem ref25_New_s (max_0 : Int) {Q : Value → Heap → Prop} {h : Heap} (hk : ref25_New_v max_0 Q h) : CallT Try.prog fn_ref25_New #[Value.int .i64 max_0] h Q := by
  obtain ⟨c, hb, he⟩ := ref25_New_e max_0 Q h hk
  exact callT_of (N := 10) Try.func8 hb rfl (Try.call8 _) (Nat.le_of_ble_eq_true rfl) he
/-! ### intrusion/intrusionref25.Same -/
def ref25_Same_b3 (Q : Value → Heap → Prop) (h : Heap) : Prop :=
  Q (Value.bool false) h
def ref25_Same_b10 (Q : Value → Heap → Prop) (Kn6 : (Int) → Heap → Prop) (h : Heap) : Prop :=
  Q (Value.bool false) h
def ref25_Same_b11 (a_0a : Option Addr) (a_0n : Nat) (a_0c : Nat) (b_1a : Option Addr) (b_1n : Nat) (b_1c : Nat) (i_5 : Int) (Q : Value → Heap → Prop) (Kn6 : (Int) → Heap → Prop) (h : Heap) : Prop :=
  Kn6 (IntKind.wrap .i64 (i_5 + (1 : Int))) h
def ref25_Same_b9 (a_0a : Option Addr) (a_0n : Nat) (a_0c : Nat) (b_1a : Option Addr) (b_1n : Nat) (b_1c : Nat) (i_5 : Int) (Q : Value → Heap → Prop) (Kn6 : (Int) → Heap → Prop) (h : Heap) : Prop :=
  idxA i_5 a_0n (nn a_0a fun t19 => ldS h (Addr.add t19 ((i_5).toNat * 2)) fun t20_0 => ldB h (Addr.add (Addr.add t19 ((i_5).toNat * 2)) 1) fun t20_1 => idxA i_5 b_1n (nn b_1a fun t23 => ldS h (Addr.add t23 ((i_5).toNat * 2)) fun t24_0 => ldB h (Addr.add (Addr.add t23 ((i_5).toNat * 2)) 1) fun t24_1 => if (!((t20_0 == t24_0) && ((t20_1 == t24_1) && true))) = true then (ref25_Same_b10 Q Kn6 h) else (ref25_Same_b11 a_0a a_0n a_0c b_1a b_1n b_1c i_5 Q Kn6 h)))
def ref25_Same_b8 (a_0a : Option Addr) (a_0n : Nat) (a_0c : Nat) (b_1a : Option Addr) (b_1n : Nat) (b_1c : Nat) (i_5 : Int) (Q : Value → Heap → Prop) (Kn6 : (Int) → Heap → Prop) (h : Heap) : Prop :=
  ref25_Same_b9 a_0a a_0n a_0c b_1a b_1n b_1c i_5 Q Kn6 h
def ref25_Same_b12 (Q : Value → Heap → Prop) (h : Heap) : Prop :=
  Q (Value.bool true) h
def ref25_Same_b7 (a_0a : Option Addr) (a_0n : Nat) (a_0c : Nat) (b_1a : Option Addr) (b_1n : Nat) (b_1c : Nat) (i_5 : Int) (Q : Value → Heap → Prop) (Kn6 : (Int) → Heap → Prop) (h : Heap) : Prop :=
  if (decide (i_5 < ((a_0n : Nat) : Int))) = true then (ref25_Same_b8 a_0a a_0n a_0c b_1a b_1n b_1c i_5 Q Kn6 h) else (ref25_Same_b12 Q h)
def ref25_Same_l6 (a_0a : Option Addr) (a_0n : Nat) (a_0c : Nat) (b_1a : Option Addr) (b_1n : Nat) (b_1c : Nat) (Q : Value → Heap → Prop) (i_5 : Int) (h : Heap) (Kn6 : (Int) → Heap → Prop) : Prop :=
  ref25_Same_b7 a_0a a_0n a_0c b_1a b_1n b_1c i_5 Q Kn6 h
def ref25_Same_b5 (a_0a : Option Addr) (a_0n : Nat) (a_0c : Nat) (b_1a : Option Addr) (b_1n : Nat) (b_1c : Nat) (Q : Value → Heap → Prop) (h : Heap) : Prop :=
  LoopV (fun (s : Int) h Kn => ref25_Same_l6 a_0a a_0n a_0c b_1a b_1n b_1c Q s h Kn) 0 h
def ref25_Same_b4 (a_0a : Option Addr) (a_0n : Nat) (a_0c : Nat) (b_1a : Option Addr) (b_1n : Nat) (b_1c : Nat) (Q : Value → Heap → Prop) (h : Heap) : Prop :=
  ref25_Same_b5 a_0a a_0n a_0c b_1a b_1n b_1c Q h
def ref25_Same_b2 (a_0a : Option Addr) (a_0n : Nat) (a_0c : Nat) (b_1a : Option Addr) (b_1n : Nat) (b_1c : Nat) (Q : Value → Heap → Prop) (h : Heap) : Prop :=
  if (((a_0n : Nat) : Int) != ((b_1n : Nat) : Int)) = true then (ref25_Same_b3 Q h) else (ref25_Same_b4 a_0a a_0n a_0c b_1a b_1n b_1c Q h)
def ref25_Same_b1 (a_0a : Option Addr) (a_0n : Nat) (a_0c : Nat) (b_1a : Option Addr) (b_1n : Nat) (b_1c : Nat) (Q : Value → Heap → Prop) (h : Heap) : Prop :=
  ref25_Same_b2 a_0a a_0n a_0c b_1a b_1n b_1c Q h
def ref25_Same_v (a_0a : Option Addr) (a_0n : Nat) (a_0c : Nat) (b_1a : Option Addr) (b_1n : Nat) (b_1c : Nat) (Q : Value → Heap → Prop) (h : Heap) : Prop :=
  ref25_Same_b1 a_0a a_0n a_0c b_1a b_1n b_1c Q h
set_option maxRecDepth 100000 in
theorem ref25_Same_e (a_0a : Option Addr) (a_0n : Nat) (a_0c : Nat) (b_1a : Option Addr) (b_1n : Nat) (b_1c : Nat) (Q : Value → Heap → Prop) (h : Heap) (hk : ref25_Same_v a_0a a_0n a_0c b_1a b_1n b_1c Q h) :
    ∃ c, Try.f9.body = some c ∧ EWP Try.prog 26 c (fnPost Try.prog Try.f9 Q) (env0 #[Value.slice a_0a a_0n a_0c, Value.slice b_1a b_1n b_1c]) [] h := by
  refine ⟨_, rfl, ?_⟩
  have hk : ref25_Same_b1 a_0a a_0n a_0c b_1a b_1n b_1c Q h := hk
  have f0 : env0 #[Value.slice a_0a a_0n a_0c, Value.slice b_1a b_1n b_1c] 0 = Value.slice a_0a a_0n a_0c := rfl
  have f1 : env0 #[Value.slice a_0a a_0n a_0c, Value.slice b_1a b_1n b_1c] 1 = Value.slice b_1a b_1n b_1c := rfl
  generalize env0 #[Value.slice a_0a a_0n a_0c, Value.slice b_1a b_1n b_1c] = e at *
  refine EWP.seqR (fun e h => ref25_Same_b2 a_0a a_0n a_0c b_1a b_1n b_1c Q h) ?_ ?_ ?_
  · kernel_rfl
  · skip
    exact eqMp (by as_aux_lemma => kernel_rfl : _ = ref25_Same_b1 a_0a a_0n a_0c b_1a b_1n b_1c Q h) hk
  · intro e h hp hk
    have f0 := (hp 0 (by kernel_rfl)).trans f0
    have f1 := (hp 1 (by kernel_rfl)).trans f1
    clear hp
    refine EWP.seqC (fun e h => e 0 = Value.slice a_0a a_0n a_0c ∧ e 1 = Value.slice b_1a b_1n b_1c ∧ ref25_Same_b4 a_0a a_0n a_0c b_1a b_1n b_1c Q h) ?_ ?_
    · have he : upd (upd e 0 (Value.slice a_0a a_0n a_0c)) 1 (Value.slice b_1a b_1n b_1c) = e := by rw [upd_self f0, upd_self f1]
      refine EWP.seqR (fun e h => dB (e 10) fun t10 => if t10 = true then (ref25_Same_b3 Q h) else (ref25_Same_b4 a_0a a_0n a_0c b_1a b_1n b_1c Q h)) ?_ ?_ ?_
      · kernel_rfl
      · rw [← he]
        exact eqMp (by as_aux_lemma => kernel_rfl : _ = ref25_Same_b2 a_0a a_0n a_0c b_1a b_1n b_1c Q h) hk
      · intro e h hp hk
        have f0 := (hp 0 (by kernel_rfl)).trans f0
        have f1 := (hp 1 (by kernel_rfl)).trans f1
        clear hp
        obtain ⟨t10, f10, hk⟩ := dB_elim hk
        have fc : eev e (.tmp 10) = .bool t10 := f10
        refine EWP.condI fc hk ?_ ?_
        · intro hk
          refine EWP.seqR (fun e h => dB (e 4) fun t4 => Q (Value.bool t4) h) ?_ ?_ ?_
          · kernel_rfl
          · skip
            exact eqMp (by as_aux_lemma => kernel_rfl : _ = ref25_Same_b3 Q h) hk
          · intro e h hp hk
            clear hp
            obtain ⟨t4, f4, hk⟩ := dB_elim hk
            refine EWP.ret ?_
            have he : upd e 4 (Value.bool t4) = e := by rw [upd_self f4]
            refine (show _ ∧ _ from ⟨rfl, ?_⟩)
            rw [← he]
            exact eqMp (by as_aux_lemma => kernel_rfl : _ = (Q (Value.bool t4) h)) hk
        · intro hk
          refine EWP.skip ?_
          exact (show _ ∧ _ from ⟨rfl, f0, f1, hk⟩)
    · rintro e h ⟨f0, f1, hk⟩
      refine EWP.seqC (fun e h => ref25_Same_b12 Q h) ?_ ?_
      · refine EWP.seqR (fun e h => dI .i64 (e 5) fun i_5 => LoopV (fun (s : Int) h Kn => ref25_Same_l6 a_0a a_0n a_0c b_1a b_1n b_1c Q s h Kn) i_5 h) ?_ ?_ ?_
        · kernel_rfl
        · skip
          exact eqMp (by as_aux_lemma => kernel_rfl : _ = ref25_Same_b5 a_0a a_0n a_0c b_1a b_1n b_1c Q h) hk
        · intro e h hp hk
          have f0 := (hp 0 (by kernel_rfl)).trans f0
          have f1 := (hp 1 (by kernel_rfl)).trans f1
          clear hp
          obtain ⟨i_5, f5, hk⟩ := dI_elim hk
          refine EWP.block ?_
          refine EWP.loopV (fun e (s : Int) => e 0 = Value.slice a_0a a_0n a_0c ∧ e 1 = Value.slice b_1a b_1n b_1c ∧ e 5 = Value.int .i64 s) ⟨f0, f1, f5⟩ hk ?_
          rintro e i_5 h Kn6 ⟨f0, f1, f5⟩ hk
          have f5 : e 5 = Value.int .i64 i_5 := f5
          have hk : ref25_Same_l6 a_0a a_0n a_0c b_1a b_1n b_1c Q i_5 h Kn6 := hk
          refine EWP.seqC (fun e h => e 0 = Value.slice a_0a a_0n a_0c ∧ e 1 = Value.slice b_1a b_1n b_1c ∧ e 5 = Value.int .i64 i_5 ∧ ref25_Same_b8 a_0a a_0n a_0c b_1a b_1n b_1c i_5 Q Kn6 h) ?_ ?_
          · have he : upd (upd e 0 (Value.slice a_0a a_0n a_0c)) 5 (Value.int .i64 i_5) = e := by rw [upd_self f0, upd_self f5]
            refine EWP.seqR (fun e h => dB (e 14) fun t14 => if t14 = true then (ref25_Same_b8 a_0a a_0n a_0c b_1a b_1n b_1c i_5 Q Kn6 h) else (ref25_Same_b12 Q h)) ?_ ?_ ?_
            · kernel_rfl
            · rw [← he]
              exact eqMp (by as_aux_lemma => kernel_rfl : _ = ref25_Same_b7 a_0a a_0n a_0c b_1a b_1n b_1c i_5 Q Kn6 h) hk
            · intro e h hp hk
              have f0 := (hp 0 (by kernel_rfl)).trans f0
              have f1 := (hp 1 (by kernel_rfl)).trans f1
              have f5 := (hp 5 (by kernel_rfl)).trans f5
              clear hp
              obtain ⟨t14, f14, hk⟩ := dB_elim hk
              have fc : eev e (.tmp 14) = .bool t14 := f14
              refine EWP.condI fc hk ?_ ?_
              · intro hk
                refine EWP.skip ?_
                exact (show _ ∧ _ from ⟨rfl, f0, f1, f5, hk⟩)
              · intro hk
                refine EWP.exit ?_
                exact (show _ ∧ _ from ⟨rfl, hk⟩)
          · rintro e h ⟨f0, f1, f5, hk⟩
            refine EWP.seqC (fun e h => e 0 = Value.slice a_0a a_0n a_0c ∧ e 1 = Value.slice b_1a b_1n b_1c ∧ e 5 = Value.int .i64 i_5 ∧ ref25_Same_b11 a_0a a_0n a_0c b_1a b_1n b_1c i_5 Q Kn6 h) ?_ ?_
            · refine EWP.block ?_
              have he : upd (upd (upd e 0 (Value.slice a_0a a_0n a_0c)) 1 (Value.slice b_1a b_1n b_1c)) 5 (Value.int .i64 i_5) = e := by rw [upd_self f0, upd_self f1, upd_self f5]
              refine EWP.seqD (fun e h => dB (e 25) fun t25 => if t25 = true then (ref25_Same_b10 Q Kn6 h) else (ref25_Same_b11 a_0a a_0n a_0c b_1a b_1n b_1c i_5 Q Kn6 h)) ?_ ?_ ?_ ?_
              · kernel_rfl
              · kernel_rfl
              · rw [← he]
                exact eqMp (by as_aux_lemma => kernel_rfl : _ = ref25_Same_b9 a_0a a_0n a_0c b_1a b_1n b_1c i_5 Q Kn6 h) hk
              · intro e h hp hk
                have f0 := (hp 0 (by kernel_rfl)).trans f0
                have f1 := (hp 1 (by kernel_rfl)).trans f1
                have f5 := (hp 5 (by kernel_rfl)).trans f5
                clear hp
                obtain ⟨t25, f25, hk⟩ := dB_elim hk
                have fc : eev e (.tmp 25) = .bool t25 := f25
                refine EWP.condI fc hk ?_ ?_
                · intro hk
                  refine EWP.seqR (fun e h => dB (e 4) fun t4 => Q (Value.bool t4) h) ?_ ?_ ?_
                  · kernel_rfl
                  · skip
                    exact eqMp (by as_aux_lemma => kernel_rfl : _ = ref25_Same_b10 Q Kn6 h) hk
                  · intro e h hp hk
                    clear hp
                    obtain ⟨t4, f4, hk⟩ := dB_elim hk
                    refine EWP.ret ?_
                    have he : upd e 4 (Value.bool t4) = e := by rw [upd_self f4]
                    refine (show _ ∧ _ from ⟨rfl, ?_⟩)
                    rw [← he]
                    exact eqMp (by as_aux_lemma => kernel_rfl : _ = (Q (Value.bool t4) h)) hk
                · intro hk
                  refine EWP.skip ?_
                  exact (show _ ∧ _ from ⟨rfl, f0, f1, f5, hk⟩)
            · rintro e h ⟨f0, f1, f5, hk⟩
              have he : upd e 5 (Value.int .i64 i_5) = e := by rw [upd_self f5]
              refine EWP.regionN (fun e h => dI .i64 (e 5) fun i_5 => Kn6 (i_5) h) ?_ ?_ ?_
              · kernel_rfl
              · rw [← he]
                exact eqMp (by as_aux_lemma => kernel_rfl : _ = ref25_Same_b11 a_0a a_0n a_0c b_1a b_1n b_1c i_5 Q Kn6 h) hk
              · intro e h hp hk
                have f0 := (hp 0 (by kernel_rfl)).trans f0
                have f1 := (hp 1 (by kernel_rfl)).trans f1
                clear hp
                obtain ⟨i_5, f5, hk⟩ := dI_elim hk
                exact (show _ ∧ _ from ⟨rfl, i_5, ⟨f0, f1, f5⟩, hk⟩)
      · rintro e h hk
        refine EWP.seqR (fun e h => dB (e 4) fun t4 => Q (Value.bool t4) h) ?_ ?_ ?_
        · kernel_rfl
        · skip
          exact eqMp (by as_aux_lemma => kernel_rfl : _ = ref25_Same_b12 Q h) hk
        · intro e h hp hk
          clear hp
          obtain ⟨t4, f4, hk⟩ := dB_elim hk
          refine EWP.ret ?_
          have he : upd e 4 (Value.bool t4) = e := by rw [upd_self f4]
          refine (show _ ∧ _ from ⟨rfl, ?_⟩)
          rw [← he]
          exact eqMp (by as_aux_lemma => kernel_rfl : _ = (Q (Value.bool t4) h)) hk
theorem ref25_Same_s (a_0a : Option Addr) (a_0n : Nat) (a_0c : Nat) (b_1a : Option Addr) (b_1n : Nat) (b_1c : Nat) {Q : Value → Heap → Prop} {h : Heap} (hk : ref25_Same_v a_0a a_0n a_0c b_1a b_1n b_1c Q h) : CallT Try.prog fn_ref25_Same #[Value.slice a_0a a_0n a_0c, Value.slice b_1a b_1n b_1c] h Q := by
  obtain ⟨c, hb, he⟩ := ref25_Same_e a_0a a_0n a_0c b_1a b_1n b_1c Q h hk
  exact callT_of (N := 26) Try.func9 hb rfl (Try.call9 _) (Nat.le_of_ble_eq_true rfl) he
/-! ### (*intrusion/lines.Splitter).Feed -/
def lines_Splitter_Feed_b3 (Q : Value → Heap → Prop) (h : Heap) : Prop :=
  Q (Value.slice none 0 0) h
def lines_Splitter_Feed_b8 (p_2 : Addr) (s_3 : Addr) (out_5 : Addr) (step_6_0 : Addr) (step_6_1 : Addr) (step_6_2 : Addr) (Q : Value → Heap → Prop) (Kn6 : (Unit) → Heap → Prop) (h : Heap) : Prop :=
  Kn6 () h
def lines_Splitter_Feed_b10 (out_5 : Addr) (Q : Value → Heap → Prop) (h : Heap) : Prop :=
  ldL h out_5 fun t15a t15n t15c => Q (Value.slice t15a t15n t15c) h
def lines_Splitter_Feed_b9 (p_2 : Addr) (s_3 : Addr) (out_5 : Addr) (Q : Value → Heap → Prop) (h : Heap) : Prop :=
  ldP h p_2 fun t12 => ldS h s_3 fun t13 => CallT Try.prog fn_lines_Splitter_append #[Value.pointer t12, Value.string t13] h fun v h5 => v = Value.tuple #[] ∧ lines_Splitter_Feed_b10 out_5 Q h5
def lines_Splitter_Feed_b7 (p_2 : Addr) (s_3 : Addr) (out_5 : Addr) (step_6_0 : Addr) (step_6_1 : Addr) (step_6_2 : Addr) (Q : Value → Heap → Prop) (Kn6 : (Unit) → Heap → Prop) (h : Heap) : Prop :=
  CallT Try.prog fn_lines_Splitter_Feed_1 #[Value.pointer (some step_6_0), Value.pointer (some step_6_1), Value.pointer (some step_6_2)] h fun v h4 => ∃ t11 : Bool, v = Value.bool t11 ∧ if t11 = true then (lines_Splitter_Feed_b8 p_2 s_3 out_5 step_6_0 step_6_1 step_6_2 Q Kn6 h4) else (lines_Splitter_Feed_b9 p_2 s_3 out_5 Q h4)
def lines_Splitter_Feed_l6 (p_2 : Addr) (s_3 : Addr) (out_5 : Addr) (step_6_0 : Addr) (step_6_1 : Addr) (step_6_2 : Addr) (Q : Value → Heap → Prop) (h : Heap) (Kn6 : (Unit) → Heap → Prop) : Prop :=
  lines_Splitter_Feed_b7 p_2 s_3 out_5 step_6_0 step_6_1 step_6_2 Q Kn6 h
def lines_Splitter_Feed_b5 (p_2 : Addr) (s_3 : Addr) (out_5 : Addr) (Q : Value → Heap → Prop) (h : Heap) : Prop :=
  LoopV (fun (s : Unit) h Kn => lines_Splitter_Feed_l6 p_2 s_3 out_5 s_3 p_2 out_5 Q h Kn) () h
def lines_Splitter_Feed_b4 (p_2 : Addr) (s_3 : Addr) (Q : Value → Heap → Prop) (h : Heap) : Prop :=
  alV h (.cells #[Value.slice none 0 0] 31) fun t5 h3 => lines_Splitter_Feed_b5 p_2 s_3 t5 Q h3
def lines_Splitter_Feed_b2 (p_2 : Addr) (s_3 : Addr) (Q : Value → Heap → Prop) (h : Heap) : Prop :=
  ldP h p_2 fun t7 => if (Option.isNone t7) = true then (lines_Splitter_Feed_b3 Q h) else (lines_Splitter_Feed_b4 p_2 s_3 Q h)
def lines_Splitter_Feed_b1 (p_0 : Option Addr) (s_1 : ByteArray) (Q : Value → Heap → Prop) (h : Heap) : Prop :=
  alV h (.cells #[Value.pointer p_0] 24) fun t2 h1 => alV h1 (.cells #[Value.string s_1] 9) fun t3 h2 => lines_Splitter_Feed_b2 t2 t3 Q h2
def lines_Splitter_Feed_v (p_0 : Option Addr) (s_1 : ByteArray) (Q : Value → Heap → Prop) (h : Heap) : Prop :=
  lines_Splitter_Feed_b1 p_0 s_1 Q h
set_option maxRecDepth 100000 in
theorem lines_Splitter_Feed_e (p_0 : Option Addr) (s_1 : ByteArray) (Q : Value → Heap → Prop) (h : Heap) (hk : lines_Splitter_Feed_v p_0 s_1 Q h) :
    ∃ c, Try.f10.body = some c ∧ EWP Try.prog 16 c (fnPost Try.prog Try.f10 Q) (env0 #[Value.pointer p_0, Value.string s_1]) [] h := by
  refine ⟨_, rfl, ?_⟩
  have hk : lines_Splitter_Feed_b1 p_0 s_1 Q h := hk
  have f0 : env0 #[Value.pointer p_0, Value.string s_1] 0 = Value.pointer p_0 := rfl
  have f1 : env0 #[Value.pointer p_0, Value.string s_1] 1 = Value.string s_1 := rfl
  generalize env0 #[Value.pointer p_0, Value.string s_1] = e at *
  have he : upd (upd e 0 (Value.pointer p_0)) 1 (Value.string s_1) = e := by rw [upd_self f0, upd_self f1]
  refine EWP.seqR (fun e h => dA (e 2) fun p_2 => dA (e 3) fun s_3 => lines_Splitter_Feed_b2 p_2 s_3 Q h) ?_ ?_ ?_
  · kernel_rfl
  · rw [← he]
    exact eqMp (by as_aux_lemma => kernel_rfl : _ = lines_Splitter_Feed_b1 p_0 s_1 Q h) hk
  · intro e h hp hk
    clear hp
    obtain ⟨p_2, f2, hk⟩ := dA_elim hk
    obtain ⟨s_3, f3, hk⟩ := dA_elim hk
    refine EWP.seqC (fun e h => e 2 = Value.pointer (some p_2) ∧ e 3 = Value.pointer (some s_3) ∧ lines_Splitter_Feed_b4 p_2 s_3 Q h) ?_ ?_
    · have he : upd e 2 (Value.pointer (some p_2)) = e := by rw [upd_self f2]
      refine EWP.seqR (fun e h => dB (e 8) fun t8 => if t8 = true then (lines_Splitter_Feed_b3 Q h) else (lines_Splitter_Feed_b4 p_2 s_3 Q h)) ?_ ?_ ?_
      · kernel_rfl
      · rw [← he]
        exact eqMp (by as_aux_lemma => kernel_rfl : _ = lines_Splitter_Feed_b2 p_2 s_3 Q h) hk
      · intro e h hp hk
        have f2 := (hp 2 (by kernel_rfl)).trans f2
        have f3 := (hp 3 (by kernel_rfl)).trans f3
        clear hp
        obtain ⟨t8, f8, hk⟩ := dB_elim hk
        have fc : eev e (.tmp 8) = .bool t8 := f8
        refine EWP.condI fc hk ?_ ?_
        · intro hk
          refine EWP.seqR (fun e h => dL (e 4) fun t4a t4n t4c => Q (Value.slice t4a t4n t4c) h) ?_ ?_ ?_
          · kernel_rfl
          · skip
            exact eqMp (by as_aux_lemma => kernel_rfl : _ = lines_Splitter_Feed_b3 Q h) hk
          · intro e h hp hk
            clear hp
            obtain ⟨t4a, t4n, t4c, f4, hk⟩ := dL_elim hk
            refine EWP.ret ?_
            have he : upd e 4 (Value.slice t4a t4n t4c) = e := by rw [upd_self f4]
            refine (show _ ∧ _ from ⟨rfl, ?_⟩)
            rw [← he]
            exact eqMp (by as_aux_lemma => kernel_rfl : _ = (Q (Value.slice t4a t4n t4c) h)) hk
        · intro hk
          refine EWP.skip ?_
          exact (show _ ∧ _ from ⟨rfl, f2, f3, hk⟩)
    · rintro e h ⟨f2, f3, hk⟩
      refine EWP.seqR (fun e h => dA (e 5) fun out_5 => lines_Splitter_Feed_b5 p_2 s_3 out_5 Q h) ?_ ?_ ?_
      · kernel_rfl
      · skip
        exact eqMp (by as_aux_lemma => kernel_rfl : _ = lines_Splitter_Feed_b4 p_2 s_3 Q h) hk
      · intro e h hp hk
        have f2 := (hp 2 (by kernel_rfl)).trans f2
        have f3 := (hp 3 (by kernel_rfl)).trans f3
        clear hp
        obtain ⟨out_5, f5, hk⟩ := dA_elim hk
        have he : upd (upd (upd e 2 (Value.pointer (some p_2))) 3 (Value.pointer (some s_3))) 5 (Value.pointer (some out_5)) = e := by rw [upd_self f2, upd_self f3, upd_self f5]
        refine EWP.seqR (fun e h => dF 20 (e 6) fun l6_1 => dC l6_1 fun v6_2 l6_2 => dA v6_2 fun step_6_0 => dC l6_2 fun v6_3 l6_3 => dA v6_3 fun step_6_1 => dC l6_3 fun v6_4 l6_4 => dA v6_4 fun step_6_2 => dE l6_4 (LoopV (fun (s : Unit) h Kn => lines_Splitter_Feed_l6 p_2 s_3 out_5 step_6_0 step_6_1 step_6_2 Q h Kn) () h)) ?_ ?_ ?_
        · kernel_rfl
        · rw [← he]
          exact eqMp (by as_aux_lemma => kernel_rfl : _ = lines_Splitter_Feed_b5 p_2 s_3 out_5 Q h) hk
        · intro e h hp hk
          have f2 := (hp 2 (by kernel_rfl)).trans f2
          have f3 := (hp 3 (by kernel_rfl)).trans f3
          have f5 := (hp 5 (by kernel_rfl)).trans f5
          clear hp
          obtain ⟨l6_1, f6, hk2⟩ := dF_elim hk
          clear hk
          have hk := hk2
          clear hk2
          obtain ⟨v6_2, l6_2, q, hk2⟩ := dC_elim hk
          clear hk
          subst q
          have hk := hk2
          clear hk2
          obtain ⟨step_6_0, q, hk2⟩ := dA_elim hk
          clear hk
          subst q
          have hk := hk2
          clear hk2
          obtain ⟨v6_3, l6_3, q, hk2⟩ := dC_elim hk
          clear hk
          subst q
          have hk := hk2
          clear hk2
          obtain ⟨step_6_1, q, hk2⟩ := dA_elim hk
          clear hk
          subst q
          have hk := hk2
          clear hk2
          obtain ⟨v6_4, l6_4, q, hk2⟩ := dC_elim hk
          clear hk
          subst q
          have hk := hk2
          clear hk2
          obtain ⟨step_6_2, q, hk2⟩ := dA_elim hk
          clear hk
          subst q
          have hk := hk2
          clear hk2
          obtain ⟨q, hk2⟩ := dE_elim hk
          clear hk
          subst q
          have hk := hk2
          clear hk2
          have f6 : e 6 = Value.func (.func 20) #[] #[Value.pointer (some step_6_0), Value.pointer (some step_6_1), Value.pointer (some step_6_2)] := f6
          refine EWP.seqC (fun e h => e 2 = Value.pointer (some p_2) ∧ e 3 = Value.pointer (some s_3) ∧ e 5 = Value.pointer (some out_5) ∧ lines_Splitter_Feed_b9 p_2 s_3 out_5 Q h) ?_ ?_
          · refine EWP.block ?_
            refine EWP.loopV (fun e (s : Unit) => e 2 = Value.pointer (some p_2) ∧ e 3 = Value.pointer (some s_3) ∧ e 5 = Value.pointer (some out_5) ∧ e 6 = Value.func (.func 20) #[] #[Value.pointer (some step_6_0), Value.pointer (some step_6_1), Value.pointer (some step_6_2)]) ⟨f2, f3, f5, f6⟩ hk ?_
            rintro e ⟨⟩ h Kn6 ⟨f2, f3, f5, f6⟩ hk
            have hk : lines_Splitter_Feed_l6 p_2 s_3 out_5 step_6_0 step_6_1 step_6_2 Q h Kn6 := hk
            refine EWP.seqC (fun e h => e 2 = Value.pointer (some p_2) ∧ e 3 = Value.pointer (some s_3) ∧ e 5 = Value.pointer (some out_5) ∧ e 6 = Value.func (.func 20) #[] #[Value.pointer (some step_6_0), Value.pointer (some step_6_1), Value.pointer (some step_6_2)] ∧ lines_Splitter_Feed_b8 p_2 s_3 out_5 step_6_0 step_6_1 step_6_2 Q Kn6 h) ?_ ?_
            · have he : upd e 6 (Value.func (.func 20) #[] #[Value.pointer (some step_6_0), Value.pointer (some step_6_1), Value.pointer (some step_6_2)]) = e := by rw [upd_self f6]
              refine EWP.seqR (fun e h => dB (e 11) fun t11 => if t11 = true then (lines_Splitter_Feed_b8 p_2 s_3 out_5 step_6_0 step_6_1 step_6_2 Q Kn6 h) else (lines_Splitter_Feed_b9 p_2 s_3 out_5 Q h)) ?_ ?_ ?_
              · kernel_rfl
              · rw [← he]
                exact eqMp (by as_aux_lemma => kernel_rfl : _ = lines_Splitter_Feed_b7 p_2 s_3 out_5 step_6_0 step_6_1 step_6_2 Q Kn6 h) hk
              · intro e h hp hk
                have f2 := (hp 2 (by kernel_rfl)).trans f2
                have f3 := (hp 3 (by kernel_rfl)).trans f3
                have f5 := (hp 5 (by kernel_rfl)).trans f5
                have f6 := (hp 6 (by kernel_rfl)).trans f6
                clear hp
                obtain ⟨t11, f11, hk⟩ := dB_elim hk
                have fc : eev e (.tmp 11) = .bool t11 := f11
                refine EWP.condI fc hk ?_ ?_
                · intro hk
                  refine EWP.skip ?_
                  exact (show _ ∧ _ from ⟨rfl, f2, f3, f5, f6, hk⟩)
                · intro hk
                  refine EWP.exit ?_
                  exact (show _ ∧ _ from ⟨rfl, f2, f3, f5, hk⟩)
            · rintro e h ⟨f2, f3, f5, f6, hk⟩
              refine EWP.block ?_
              refine EWP.exit ?_
              exact (show _ ∧ _ from ⟨rfl, (), ⟨f2, f3, f5, f6⟩, hk⟩)
          · rintro e h ⟨f2, f3, f5, hk⟩
            have he : upd (upd e 2 (Value.pointer (some p_2))) 3 (Value.pointer (some s_3)) = e := by rw [upd_self f2, upd_self f3]
            refine EWP.seqR (fun e h => lines_Splitter_Feed_b10 out_5 Q h) ?_ ?_ ?_
            · kernel_rfl
            · rw [← he]
              exact eqMp (by as_aux_lemma => kernel_rfl : _ = lines_Splitter_Feed_b9 p_2 s_3 out_5 Q h) hk
            · intro e h hp hk
              have f5 := (hp 5 (by kernel_rfl)).trans f5
              clear hp
              have he : upd e 5 (Value.pointer (some out_5)) = e := by rw [upd_self f5]
              refine EWP.seqR (fun e h => dL (e 4) fun t4a t4n t4c => Q (Value.slice t4a t4n t4c) h) ?_ ?_ ?_
              · kernel_rfl
              · rw [← he]
                exact eqMp (by as_aux_lemma => kernel_rfl : _ = lines_Splitter_Feed_b10 out_5 Q h) hk
              · intro e h hp hk
                clear hp
                obtain ⟨t4a, t4n, t4c, f4, hk⟩ := dL_elim hk
                refine EWP.ret ?_
                have he : upd e 4 (Value.slice t4a t4n t4c) = e := by rw [upd_self f4]
                refine (show _ ∧ _ from ⟨rfl, ?_⟩)
                rw [← he]
                exact eqMp (by as_aux_lemma => kernel_rfl : _ = (Q (Value.slice t4a t4n t4c) h)) hk
theorem lines_Splitter_Feed_s (p_0 : Option Addr) (s_1 : ByteArray) {Q : Value → Heap → Prop} {h : Heap} (hk : lines_Splitter_Feed_v p_0 s_1 Q h) : CallT Try.prog fn_lines_Splitter_Feed #[Value.pointer p_0, Value.string s_1] h Q := by
  obtain ⟨c, hb, he⟩ := lines_Splitter_Feed_e p_0 s_1 Q h hk
  exact callT_of (N := 16) Try.func10 hb rfl (Try.call10 _) (Nat.le_of_ble_eq_true rfl) he
/-! ### (*intrusion/intrusionref25.Splitter).Feed -/
def ref25_Splitter_Feed_b12 (p_0 : Option Addr) (out_5a : Option Addr) (out_5n : Nat) (out_5c : Nat) (all_6 : ByteArray) (from_7 : Int) (i_8 : Int) (Q : Value → Heap → Prop) (Kn6 : ((Option Addr) × Nat × Nat × Int × Int) → Heap → Prop) (h : Heap) : Prop :=
  Kn6 (out_5a, out_5n, out_5c, from_7, IntKind.wrap .i64 (i_8 + (1 : Int))) h
def ref25_Splitter_Feed_b11 (p_0 : Option Addr) (out_5a : Option Addr) (out_5n : Nat) (out_5c : Nat) (all_6 : ByteArray) (i_8 : Int) (Q : Value → Heap → Prop) (Kn6 : ((Option Addr) × Nat × Nat × Int × Int) → Heap → Prop) (h : Heap) : Prop :=
  ref25_Splitter_Feed_b12 p_0 out_5a out_5n out_5c all_6 (IntKind.wrap .i64 (i_8 + (1 : Int))) i_8 Q Kn6 h
def ref25_Splitter_Feed_b10 (p_0 : Option Addr) (out_5a : Option Addr) (out_5n : Nat) (out_5c : Nat) (all_6 : ByteArray) (from_7 : Int) (i_8 : Int) (Q : Value → Heap → Prop) (Kn6 : ((Option Addr) × Nat × Nat × Int × Int) → Heap → Prop) (h : Heap) : Prop :=
  sliceStr all_6 (some from_7) (some i_8) fun t35 => CallT Try.prog fn_ref25_bare #[Value.string t35] h fun v h1 => ∃ t36 : ByteArray, v = Value.string t36 ∧ CallT Try.prog fn_ref25_Splitter_line #[Value.pointer p_0, Value.string t36] h1 fun v h2 => ∃ t37_0 : ByteArray, ∃ t37_1 : Bool, v = Value.agg #[Value.string t37_0, Value.bool t37_1] ∧ alV h2 (.cells #[Value.string t37_0, Value.bool t37_1] 38) fun t38 h3 => bltV Try.prog .append #[31, 31] 31 #[false, false] #[Value.slice out_5a out_5n out_5c, Value.slice (some t38) 1 1] h3 fun v h4 => ∃ t39a : Option Addr, ∃ t39n : Nat, ∃ t39c : Nat, v = Value.slice t39a t39n t39c ∧ ref25_Splitter_Feed_b11 p_0 t39a t39n t39c all_6 i_8 Q Kn6 h4
def ref25_Splitter_Feed_b9 (p_0 : Option Addr) (out_5a : Option Addr) (out_5n : Nat) (out_5c : Nat) (all_6 : ByteArray) (from_7 : Int) (i_8 : Int) (Q : Value → Heap → Prop) (Kn6 : ((Option Addr) × Nat × Nat × Int × Int) → Heap → Prop) (h : Heap) : Prop :=
  idxS all_6 i_8 fun t28 => if (t28 == (10 : Int)) = true then (ref25_Splitter_Feed_b10 p_0 out_5a out_5n out_5c all_6 from_7 i_8 Q Kn6 h) else (ref25_Splitter_Feed_b12 p_0 out_5a out_5n out_5c all_6 from_7 i_8 Q Kn6 h)
def ref25_Splitter_Feed_b8 (p_0 : Option Addr) (out_5a : Option Addr) (out_5n : Nat) (out_5c : Nat) (all_6 : ByteArray) (from_7 : Int) (i_8 : Int) (Q : Value → Heap → Prop) (Kn6 : ((Option Addr) × Nat × Nat × Int × Int) → Heap → Prop) (h : Heap) : Prop :=
  ref25_Splitter_Feed_b9 p_0 out_5a out_5n out_5c all_6 from_7 i_8 Q Kn6 h
def ref25_Splitter_Feed_b14 (out_5a : Option Addr) (out_5n : Nat) (out_5c : Nat) (Q : Value → Heap → Prop) (h : Heap) : Prop :=
  Q (Value.slice out_5a out_5n out_5c) h
def ref25_Splitter_Feed_b13 (p_0 : Option Addr) (out_5a : Option Addr) (out_5n : Nat) (out_5c : Nat) (all_6 : ByteArray) (from_7 : Int) (Q : Value → Heap → Prop) (h : Heap) : Prop :=
  sliceStr all_6 (some from_7) none fun t45 => nn p_0 fun t46 => st1 h (Addr.add t46 1) (Value.string t45) fun h5 => ref25_Splitter_Feed_b14 out_5a out_5n out_5c Q h5
def ref25_Splitter_Feed_b7 (p_0 : Option Addr) (out_5a : Option Addr) (out_5n : Nat) (out_5c : Nat) (all_6 : ByteArray) (from_7 : Int) (i_8 : Int) (Q : Value → Heap → Prop) (Kn6 : ((Option Addr) × Nat × Nat × Int × Int) → Heap → Prop) (h : Heap) : Prop :=
  if (decide (i_8 < ((all_6.size : Nat) : Int))) = true then (ref25_Splitter_Feed_b8 p_0 out_5a out_5n out_5c all_6 from_7 i_8 Q Kn6 h) else (ref25_Splitter_Feed_b13 p_0 out_5a out_5n out_5c all_6 from_7 Q h)
def ref25_Splitter_Feed_l6 (p_0 : Option Addr) (all_6 : ByteArray) (Q : Value → Heap → Prop) (out_5a : Option Addr) (out_5n : Nat) (out_5c : Nat) (from_7 : Int) (i_8 : Int) (h : Heap) (Kn6 : ((Option Addr) × Nat × Nat × Int × Int) → Heap → Prop) : Prop :=
  ref25_Splitter_Feed_b7 p_0 out_5a out_5n out_5c all_6 from_7 i_8 Q Kn6 h
def ref25_Splitter_Feed_b5 (p_0 : Option Addr) (out_5a : Option Addr) (out_5n : Nat) (out_5c : Nat) (all_6 : ByteArray) (from_7 : Int) (Q : Value → Heap → Prop) (h : Heap) : Prop :=
  nn p_0 fun t16 => ldS h (Addr.add t16 1) fun t18 => LoopV (fun (s : (Option Addr) × Nat × Nat × Int × Int) h Kn => ref25_Splitter_Feed_l6 p_0 all_6 Q s.1 s.2.1 s.2.2.1 s.2.2.2.1 s.2.2.2.2 h Kn) (out_5a, out_5n, out_5c, from_7, ((t18.size : Nat) : Int)) h
def ref25_Splitter_Feed_b4 (p_0 : Option Addr) (out_5a : Option Addr) (out_5n : Nat) (out_5c : Nat) (all_6 : ByteArray) (Q : Value → Heap → Prop) (h : Heap) : Prop :=
  ref25_Splitter_Feed_b5 p_0 out_5a out_5n out_5c all_6 0 Q h
def ref25_Splitter_Feed_b3 (p_0 : Option Addr) (s_1 : ByteArray) (out_5a : Option Addr) (out_5n : Nat) (out_5c : Nat) (Q : Value → Heap → Prop) (h : Heap) : Prop :=
  nn p_0 fun t10 => ldS h (Addr.add t10 1) fun t12 => ((t12.size + s_1.size : Nat) : Int) ≤ IntKind.max .i64 ∧ ref25_Splitter_Feed_b4 p_0 out_5a out_5n out_5c (t12 ++ s_1) Q h
def ref25_Splitter_Feed_b2 (p_0 : Option Addr) (s_1 : ByteArray) (Q : Value → Heap → Prop) (h : Heap) : Prop :=
  ref25_Splitter_Feed_b3 p_0 s_1 none 0 0 Q h
def ref25_Splitter_Feed_b1 (p_0 : Option Addr) (s_1 : ByteArray) (Q : Value → Heap → Prop) (h : Heap) : Prop :=
  ref25_Splitter_Feed_b2 p_0 s_1 Q h
def ref25_Splitter_Feed_v (p_0 : Option Addr) (s_1 : ByteArray) (Q : Value → Heap → Prop) (h : Heap) : Prop :=
  ref25_Splitter_Feed_b1 p_0 s_1 Q h
set_option maxRecDepth 100000 in
theorem ref25_Splitter_Feed_e (p_0 : Option Addr) (s_1 : ByteArray) (Q : Value → Heap → Prop) (h : Heap) (hk : ref25_Splitter_Feed_v p_0 s_1 Q h) :
    ∃ c, Try.f11.body = some c ∧ EWP Try.prog 49 c (fnPost Try.prog Try.f11 Q) (env0 #[Value.pointer p_0, Value.string s_1]) [] h := by
  refine ⟨_, rfl, ?_⟩
  have hk : ref25_Splitter_Feed_b1 p_0 s_1 Q h := hk
  have f0 : env0 #[Value.pointer p_0, Value.string s_1] 0 = Value.pointer p_0 := rfl
  have f1 : env0 #[Value.pointer p_0, Value.string s_1] 1 = Value.string s_1 := rfl
  generalize env0 #[Value.pointer p_0, Value.string s_1] = e at *
  refine EWP.seqR (fun e h => ref25_Splitter_Feed_b2 p_0 s_1 Q h) ?_ ?_ ?_
  · kernel_rfl
  · skip
    exact eqMp (by as_aux_lemma => kernel_rfl : _ = ref25_Splitter_Feed_b1 p_0 s_1 Q h) hk
  · intro e h hp hk
    have f0 := (hp 0 (by kernel_rfl)).trans f0
    have f1 := (hp 1 (by kernel_rfl)).trans f1
    clear hp
    refine EWP.seqR (fun e h => dL (e 5) fun out_5a out_5n out_5c => ref25_Splitter_Feed_b3 p_0 s_1 out_5a out_5n out_5c Q h) ?_ ?_ ?_
    · kernel_rfl
    · skip
      exact eqMp (by as_aux_lemma => kernel_rfl : _ = ref25_Splitter_Feed_b2 p_0 s_1 Q h) hk
    · intro e h hp hk
      have f0 := (hp 0 (by kernel_rfl)).trans f0
      have f1 := (hp 1 (by kernel_rfl)).trans f1
      clear hp
      obtain ⟨out_5a, out_5n, out_5c, f5, hk⟩ := dL_elim hk
      have he : upd (upd e 0 (Value.pointer p_0)) 1 (Value.string s_1) = e := by rw [upd_self f0, upd_self f1]
      refine EWP.seqR (fun e h => dS (e 6) fun all_6 => ref25_Splitter_Feed_b4 p_0 out_5a out_5n out_5c all_6 Q h) ?_ ?_ ?_
      · kernel_rfl
      · rw [← he]
        exact eqMp (by as_aux_lemma => kernel_rfl : _ = ref25_Splitter_Feed_b3 p_0 s_1 out_5a out_5n out_5c Q h) hk
      · intro e h hp hk
        have f0 := (hp 0 (by kernel_rfl)).trans f0
        have f5 := (hp 5 (by kernel_rfl)).trans f5
        clear hp
        obtain ⟨all_6, f6, hk⟩ := dS_elim hk
        refine EWP.seqR (fun e h => dI .i64 (e 7) fun from_7 => ref25_Splitter_Feed_b5 p_0 out_5a out_5n out_5c all_6 from_7 Q h) ?_ ?_ ?_
        · kernel_rfl
        · skip
          exact eqMp (by as_aux_lemma => kernel_rfl : _ = ref25_Splitter_Feed_b4 p_0 out_5a out_5n out_5c all_6 Q h) hk
        · intro e h hp hk
          have f0 := (hp 0 (by kernel_rfl)).trans f0
          have f5 := (hp 5 (by kernel_rfl)).trans f5
          have f6 := (hp 6 (by kernel_rfl)).trans f6
          clear hp
          obtain ⟨from_7, f7, hk⟩ := dI_elim hk
          refine EWP.seqC (fun e h => e 0 = Value.pointer p_0 ∧ e 6 = Value.string all_6 ∧ dL (e 5) fun out_5a out_5n out_5c => dI .i64 (e 7) fun from_7 => ref25_Splitter_Feed_b13 p_0 out_5a out_5n out_5c all_6 from_7 Q h) ?_ ?_
          · have he : upd e 0 (Value.pointer p_0) = e := by rw [upd_self f0]
            refine EWP.seqR (fun e h => dI .i64 (e 8) fun i_8 => LoopV (fun (s : (Option Addr) × Nat × Nat × Int × Int) h Kn => ref25_Splitter_Feed_l6 p_0 all_6 Q s.1 s.2.1 s.2.2.1 s.2.2.2.1 s.2.2.2.2 h Kn) (out_5a, out_5n, out_5c, from_7, i_8) h) ?_ ?_ ?_
            · kernel_rfl
            · rw [← he]
              exact eqMp (by as_aux_lemma => kernel_rfl : _ = ref25_Splitter_Feed_b5 p_0 out_5a out_5n out_5c all_6 from_7 Q h) hk
            · intro e h hp hk
              have f0 := (hp 0 (by kernel_rfl)).trans f0
              have f5 := (hp 5 (by kernel_rfl)).trans f5
              have f6 := (hp 6 (by kernel_rfl)).trans f6
              have f7 := (hp 7 (by kernel_rfl)).trans f7
              clear hp
              obtain ⟨i_8, f8, hk⟩ := dI_elim hk
              refine EWP.block ?_
              refine EWP.loopV (fun e (s : (Option Addr) × Nat × Nat × Int × Int) => e 0 = Value.pointer p_0 ∧ e 6 = Value.string all_6 ∧ e 5 = Value.slice s.1 s.2.1 s.2.2.1 ∧ e 7 = Value.int .i64 s.2.2.2.1 ∧ e 8 = Value.int .i64 s.2.2.2.2) ⟨f0, f6, f5, f7, f8⟩ hk ?_
              rintro e ⟨out_5a, out_5n, out_5c, from_7, i_8⟩ h Kn6 ⟨f0, f6, f5, f7, f8⟩ hk
              have f5 : e 5 = Value.slice out_5a out_5n out_5c := f5
              have f7 : e 7 = Value.int .i64 from_7 := f7
              have f8 : e 8 = Value.int .i64 i_8 := f8
              have hk : ref25_Splitter_Feed_l6 p_0 all_6 Q out_5a out_5n out_5c from_7 i_8 h Kn6 := hk
              refine EWP.seqC (fun e h => e 0 = Value.pointer p_0 ∧ e 5 = Value.slice out_5a out_5n out_5c ∧ e 6 = Value.string all_6 ∧ e 7 = Value.int .i64 from_7 ∧ e 8 = Value.int .i64 i_8 ∧ ref25_Splitter_Feed_b8 p_0 out_5a out_5n out_5c all_6 from_7 i_8 Q Kn6 h) ?_ ?_
              · have he : upd (upd e 6 (Value.string all_6)) 8 (Value.int .i64 i_8) = e := by rw [upd_self f6, upd_self f8]
                refine EWP.seqR (fun e h => dB (e 23) fun t23 => if t23 = true then (ref25_Splitter_Feed_b8 p_0 out_5a out_5n out_5c all_6 from_7 i_8 Q Kn6 h) else (ref25_Splitter_Feed_b13 p_0 out_5a out_5n out_5c all_6 from_7 Q h)) ?_ ?_ ?_
                · kernel_rfl
                · rw [← he]
                  exact eqMp (by as_aux_lemma => kernel_rfl : _ = ref25_Splitter_Feed_b7 p_0 out_5a out_5n out_5c all_6 from_7 i_8 Q Kn6 h) hk
                · intro e h hp hk
                  have f0 := (hp 0 (by kernel_rfl)).trans f0
                  have f5 := (hp 5 (by kernel_rfl)).trans f5
                  have f6 := (hp 6 (by kernel_rfl)).trans f6
                  have f7 := (hp 7 (by kernel_rfl)).trans f7
                  have f8 := (hp 8 (by kernel_rfl)).trans f8
                  clear hp
                  obtain ⟨t23, f23, hk⟩ := dB_elim hk
                  have fc : eev e (.tmp 23) = .bool t23 := f23
                  refine EWP.condI fc hk ?_ ?_
                  · intro hk
                    refine EWP.skip ?_
                    exact (show _ ∧ _ from ⟨rfl, f0, f5, f6, f7, f8, hk⟩)
                  · intro hk
                    refine EWP.exit ?_
                    exact (show _ ∧ _ from ⟨rfl, f0, f6, dL_intro f5 (dI_intro f7 (hk))⟩)
              · rintro e h ⟨f0, f5, f6, f7, f8, hk⟩
                refine EWP.seqC (fun e h => e 0 = Value.pointer p_0 ∧ e 6 = Value.string all_6 ∧ e 8 = Value.int .i64 i_8 ∧ dL (e 5) fun out_5a out_5n out_5c => dI .i64 (e 7) fun from_7 => ref25_Splitter_Feed_b12 p_0 out_5a out_5n out_5c all_6 from_7 i_8 Q Kn6 h) ?_ ?_
                · refine EWP.block ?_
                  have he : upd (upd e 6 (Value.string all_6)) 8 (Value.int .i64 i_8) = e := by rw [upd_self f6, upd_self f8]
                  refine EWP.seqR (fun e h => dB (e 29) fun t29 => if t29 = true then (ref25_Splitter_Feed_b10 p_0 out_5a out_5n out_5c all_6 from_7 i_8 Q Kn6 h) else (ref25_Splitter_Feed_b12 p_0 out_5a out_5n out_5c all_6 from_7 i_8 Q Kn6 h)) ?_ ?_ ?_
                  · kernel_rfl
                  · rw [← he]
                    exact eqMp (by as_aux_lemma => kernel_rfl : _ = ref25_Splitter_Feed_b9 p_0 out_5a out_5n out_5c all_6 from_7 i_8 Q Kn6 h) hk
                  · intro e h hp hk
                    have f0 := (hp 0 (by kernel_rfl)).trans f0
                    have f5 := (hp 5 (by kernel_rfl)).trans f5
                    have f6 := (hp 6 (by kernel_rfl)).trans f6
                    have f7 := (hp 7 (by kernel_rfl)).trans f7
                    have f8 := (hp 8 (by kernel_rfl)).trans f8
                    clear hp
                    obtain ⟨t29, f29, hk⟩ := dB_elim hk
                    have fc : eev e (.tmp 29) = .bool t29 := f29
                    refine EWP.condI fc hk ?_ ?_
                    · intro hk
                      have he : upd (upd (upd (upd (upd e 0 (Value.pointer p_0)) 5 (Value.slice out_5a out_5n out_5c)) 6 (Value.string all_6)) 7 (Value.int .i64 from_7)) 8 (Value.int .i64 i_8) = e := by rw [upd_self f0, upd_self f5, upd_self f6, upd_self f7, upd_self f8]
                      refine EWP.seqR (fun e h => dL (e 5) fun out_5a out_5n out_5c => ref25_Splitter_Feed_b11 p_0 out_5a out_5n out_5c all_6 i_8 Q Kn6 h) ?_ ?_ ?_
                      · kernel_rfl
                      · rw [← he]
                        exact eqMp (by as_aux_lemma => kernel_rfl : _ = ref25_Splitter_Feed_b10 p_0 out_5a out_5n out_5c all_6 from_7 i_8 Q Kn6 h) hk
                      · intro e h hp hk
                        have f0 := (hp 0 (by kernel_rfl)).trans f0
                        have f6 := (hp 6 (by kernel_rfl)).trans f6
                        have f8 := (hp 8 (by kernel_rfl)).trans f8
                        clear hp
                        obtain ⟨out_5a, out_5n, out_5c, f5, hk⟩ := dL_elim hk
                        have he : upd e 8 (Value.int .i64 i_8) = e := by rw [upd_self f8]
                        refine EWP.regionN (fun e h => dI .i64 (e 7) fun from_7 => ref25_Splitter_Feed_b12 p_0 out_5a out_5n out_5c all_6 from_7 i_8 Q Kn6 h) ?_ ?_ ?_
                        · kernel_rfl
                        · rw [← he]
                          exact eqMp (by as_aux_lemma => kernel_rfl : _ = ref25_Splitter_Feed_b11 p_0 out_5a out_5n out_5c all_6 i_8 Q Kn6 h) hk
                        · intro e h hp hk
                          have f0 := (hp 0 (by kernel_rfl)).trans f0
                          have f5 := (hp 5 (by kernel_rfl)).trans f5
                          have f6 := (hp 6 (by kernel_rfl)).trans f6
                          have f8 := (hp 8 (by kernel_rfl)).trans f8
                          clear hp
                          obtain ⟨from_7, f7, hk⟩ := dI_elim hk
                          exact (show _ ∧ _ from ⟨rfl, f0, f6, f8, dL_intro f5 (dI_intro f7 (hk))⟩)
                    · intro hk
                      refine EWP.skip ?_
                      exact (show _ ∧ _ from ⟨rfl, f0, f6, f8, dL_intro f5 (dI_intro f7 (hk))⟩)
                · rintro e h ⟨f0, f6, f8, hk⟩
                  obtain ⟨out_5a, out_5n, out_5c, f5, hk⟩ := dL_elim hk
                  obtain ⟨from_7, f7, hk⟩ := dI_elim hk
                  have he : upd e 8 (Value.int .i64 i_8) = e := by rw [upd_self f8]
                  refine EWP.regionN (fun e h => dI .i64 (e 8) fun i_8 => Kn6 (out_5a, out_5n, out_5c, from_7, i_8) h) ?_ ?_ ?_
                  · kernel_rfl
                  · rw [← he]
                    exact eqMp (by as_aux_lemma => kernel_rfl : _ = ref25_Splitter_Feed_b12 p_0 out_5a out_5n out_5c all_6 from_7 i_8 Q Kn6 h) hk
                  · intro e h hp hk
                    have f0 := (hp 0 (by kernel_rfl)).trans f0
                    have f5 := (hp 5 (by kernel_rfl)).trans f5
                    have f6 := (hp 6 (by kernel_rfl)).trans f6
                    have f7 := (hp 7 (by kernel_rfl)).trans f7
                    clear hp
                    obtain ⟨i_8, f8, hk⟩ := dI_elim hk
                    exact (show _ ∧ _ from ⟨rfl, (out_5a, out_5n, out_5c, from_7, i_8), ⟨f0, f6, f5, f7, f8⟩, hk⟩)
          · rintro e h ⟨f0, f6, hk⟩
            obtain ⟨out_5a, out_5n, out_5c, f5, hk⟩ := dL_elim hk
            obtain ⟨from_7, f7, hk⟩ := dI_elim hk
            have he : upd (upd (upd e 0 (Value.pointer p_0)) 6 (Value.string all_6)) 7 (Value.int .i64 from_7) = e := by rw [upd_self f0, upd_self f6, upd_self f7]
            refine EWP.seqR (fun e h => ref25_Splitter_Feed_b14 out_5a out_5n out_5c Q h) ?_ ?_ ?_
            · kernel_rfl
            · rw [← he]
              exact eqMp (by as_aux_lemma => kernel_rfl : _ = ref25_Splitter_Feed_b13 p_0 out_5a out_5n out_5c all_6 from_7 Q h) hk
            · intro e h hp hk
              have f5 := (hp 5 (by kernel_rfl)).trans f5
              clear hp
              have he : upd e 5 (Value.slice out_5a out_5n out_5c) = e := by rw [upd_self f5]
              refine EWP.seqR (fun e h => dL (e 4) fun t4a t4n t4c => Q (Value.slice t4a t4n t4c) h) ?_ ?_ ?_
              · kernel_rfl
              · rw [← he]
                exact eqMp (by as_aux_lemma => kernel_rfl : _ = ref25_Splitter_Feed_b14 out_5a out_5n out_5c Q h) hk
              · intro e h hp hk
                clear hp
                obtain ⟨t4a, t4n, t4c, f4, hk⟩ := dL_elim hk
                refine EWP.ret ?_
                have he : upd e 4 (Value.slice t4a t4n t4c) = e := by rw [upd_self f4]
                refine (show _ ∧ _ from ⟨rfl, ?_⟩)
                rw [← he]
                exact eqMp (by as_aux_lemma => kernel_rfl : _ = (Q (Value.slice t4a t4n t4c) h)) hk
theorem ref25_Splitter_Feed_s (p_0 : Option Addr) (s_1 : ByteArray) {Q : Value → Heap → Prop} {h : Heap} (hk : ref25_Splitter_Feed_v p_0 s_1 Q h) : CallT Try.prog fn_ref25_Splitter_Feed #[Value.pointer p_0, Value.string s_1] h Q := by
  obtain ⟨c, hb, he⟩ := ref25_Splitter_Feed_e p_0 s_1 Q h hk
  exact callT_of (N := 49) Try.func11 hb rfl (Try.call11 _) (Nat.le_of_ble_eq_true rfl) he
/-! ### (*intrusion/lines.Splitter).Close -/
def lines_Splitter_Close_b3 (Q : Value → Heap → Prop) (h : Heap) : Prop :=
  Q (Value.slice none 0 0) h
def lines_Splitter_Close_b4 (p_0 : Option Addr) (Q : Value → Heap → Prop) (h : Heap) : Prop :=
  nn p_0 fun t14 => ldI h (Addr.add t14 2) .i64 fun t16 => CallT Try.prog fn_lines_Splitter_line #[Value.pointer p_0, Value.int .i64 t16] h fun v h1 => ∃ t17_0 : ByteArray, ∃ t17_1 : Bool, v = Value.agg #[Value.string t17_0, Value.bool t17_1] ∧ alV h1 (.cells #[Value.string t17_0, Value.bool t17_1] 38) fun t18 h2 => Q (Value.slice (some t18) 1 1) h2
def lines_Splitter_Close_b2 (p_0 : Option Addr) (Q : Value → Heap → Prop) (h : Heap) : Prop :=
  if (Option.isNone p_0) = true then (lines_Splitter_Close_b3 Q h) else (nn p_0 fun t7 => ldI h (Addr.add t7 2) .i64 fun t9 => if (t9 == (0 : Int)) = true then (lines_Splitter_Close_b3 Q h) else (lines_Splitter_Close_b4 p_0 Q h))
def lines_Splitter_Close_b1 (p_0 : Option Addr) (Q : Value → Heap → Prop) (h : Heap) : Prop :=
  lines_Splitter_Close_b2 p_0 Q h
def lines_Splitter_Close_v (p_0 : Option Addr) (Q : Value → Heap → Prop) (h : Heap) : Prop :=
  lines_Splitter_Close_b1 p_0 Q h
set_option maxRecDepth 100000 in
theorem lines_Splitter_Close_e (p_0 : Option Addr) (Q : Value → Heap → Prop) (h : Heap) (hk : lines_Splitter_Close_v p_0 Q h) :
    ∃ c, Try.f12.body = some c ∧ EWP Try.prog 19 c (fnPost Try.prog Try.f12 Q) (env0 #[Value.pointer p_0]) [] h := by
  refine ⟨_, rfl, ?_⟩
  have hk : lines_Splitter_Close_b1 p_0 Q h := hk
  have f0 : env0 #[Value.pointer p_0] 0 = Value.pointer p_0 := rfl
  generalize env0 #[Value.pointer p_0] = e at *
  refine EWP.seqR (fun e h => lines_Splitter_Close_b2 p_0 Q h) ?_ ?_ ?_
  · kernel_rfl
  · skip
    exact eqMp (by as_aux_lemma => kernel_rfl : _ = lines_Splitter_Close_b1 p_0 Q h) hk
  · intro e h hp hk
    have f0 := (hp 0 (by kernel_rfl)).trans f0
    clear hp
    refine EWP.seqC (fun e h => e 0 = Value.pointer p_0 ∧ lines_Splitter_Close_b4 p_0 Q h) ?_ ?_
    · have he : upd e 0 (Value.pointer p_0) = e := by rw [upd_self f0]
      refine EWP.seqR (fun e h => dB (e 11) fun t11 => if t11 = true then (lines_Splitter_Close_b3 Q h) else (lines_Splitter_Close_b4 p_0 Q h)) ?_ ?_ ?_
      · kernel_rfl
      · rw [← he]
        exact eqMp (by as_aux_lemma => kernel_rfl : _ = lines_Splitter_Close_b2 p_0 Q h) hk
      · intro e h hp hk
        have f0 := (hp 0 (by kernel_rfl)).trans f0
        clear hp
        obtain ⟨t11, f11, hk⟩ := dB_elim hk
        have fc : eev e (.tmp 11) = .bool t11 := f11
        refine EWP.condI fc hk ?_ ?_
        · intro hk
          refine EWP.seqR (fun e h => dL (e 2) fun t2a t2n t2c => Q (Value.slice t2a t2n t2c) h) ?_ ?_ ?_
          · kernel_rfl
          · skip
            exact eqMp (by as_aux_lemma => kernel_rfl : _ = lines_Splitter_Close_b3 Q h) hk
          · intro e h hp hk
            clear hp
            obtain ⟨t2a, t2n, t2c, f2, hk⟩ := dL_elim hk
            refine EWP.ret ?_
            have he : upd e 2 (Value.slice t2a t2n t2c) = e := by rw [upd_self f2]
            refine (show _ ∧ _ from ⟨rfl, ?_⟩)
            rw [← he]
            exact eqMp (by as_aux_lemma => kernel_rfl : _ = (Q (Value.slice t2a t2n t2c) h)) hk
        · intro hk
          refine EWP.skip ?_
          exact (show _ ∧ _ from ⟨rfl, f0, hk⟩)
    · rintro e h ⟨f0, hk⟩
      have he : upd e 0 (Value.pointer p_0) = e := by rw [upd_self f0]
      refine EWP.seqR (fun e h => dL (e 2) fun t2a t2n t2c => Q (Value.slice t2a t2n t2c) h) ?_ ?_ ?_
      · kernel_rfl
      · rw [← he]
        exact eqMp (by as_aux_lemma => kernel_rfl : _ = lines_Splitter_Close_b4 p_0 Q h) hk
      · intro e h hp hk
        clear hp
        obtain ⟨t2a, t2n, t2c, f2, hk⟩ := dL_elim hk
        refine EWP.ret ?_
        have he : upd e 2 (Value.slice t2a t2n t2c) = e := by rw [upd_self f2]
        refine (show _ ∧ _ from ⟨rfl, ?_⟩)
        rw [← he]
        exact eqMp (by as_aux_lemma => kernel_rfl : _ = (Q (Value.slice t2a t2n t2c) h)) hk
theorem lines_Splitter_Close_s (p_0 : Option Addr) {Q : Value → Heap → Prop} {h : Heap} (hk : lines_Splitter_Close_v p_0 Q h) : CallT Try.prog fn_lines_Splitter_Close #[Value.pointer p_0] h Q := by
  obtain ⟨c, hb, he⟩ := lines_Splitter_Close_e p_0 Q h hk
  exact callT_of (N := 19) Try.func12 hb rfl (Try.call12 _) (Nat.le_of_ble_eq_true rfl) he
/-! ### (*intrusion/intrusionref25.Splitter).Close -/
def ref25_Splitter_Close_b5 (Q : Value → Heap → Prop) (h : Heap) : Prop :=
  Q (Value.slice none 0 0) h
def ref25_Splitter_Close_b6 (p_0 : Option Addr) (s_3 : ByteArray) (Q : Value → Heap → Prop) (h : Heap) : Prop :=
  CallT Try.prog fn_ref25_Splitter_line #[Value.pointer p_0, Value.string s_3] h fun v h2 => ∃ t15_0 : ByteArray, ∃ t15_1 : Bool, v = Value.agg #[Value.string t15_0, Value.bool t15_1] ∧ alV h2 (.cells #[Value.string t15_0, Value.bool t15_1] 38) fun t16 h3 => Q (Value.slice (some t16) 1 1) h3
def ref25_Splitter_Close_b4 (p_0 : Option Addr) (s_3 : ByteArray) (Q : Value → Heap → Prop) (h : Heap) : Prop :=
  if (s_3.toList == (⟨#[]⟩ : ByteArray).toList) = true then (ref25_Splitter_Close_b5 Q h) else (ref25_Splitter_Close_b6 p_0 s_3 Q h)
def ref25_Splitter_Close_b3 (p_0 : Option Addr) (s_3 : ByteArray) (Q : Value → Heap → Prop) (h : Heap) : Prop :=
  nn p_0 fun t9 => st1 h (Addr.add t9 1) (Value.string (⟨#[]⟩ : ByteArray)) fun h1 => ref25_Splitter_Close_b4 p_0 s_3 Q h1
def ref25_Splitter_Close_b2 (p_0 : Option Addr) (Q : Value → Heap → Prop) (h : Heap) : Prop :=
  nn p_0 fun t5 => ldS h (Addr.add t5 1) fun t7 => ref25_Splitter_Close_b3 p_0 t7 Q h
def ref25_Splitter_Close_b1 (p_0 : Option Addr) (Q : Value → Heap → Prop) (h : Heap) : Prop :=
  ref25_Splitter_Close_b2 p_0 Q h
def ref25_Splitter_Close_v (p_0 : Option Addr) (Q : Value → Heap → Prop) (h : Heap) : Prop :=
  ref25_Splitter_Close_b1 p_0 Q h
set_option maxRecDepth 100000 in
theorem ref25_Splitter_Close_e (p_0 : Option Addr) (Q : Value → Heap → Prop) (h : Heap) (hk : ref25_Splitter_Close_v p_0 Q h) :
    ∃ c, Try.f13.body = some c ∧ EWP Try.prog 17 c (fnPost Try.prog Try.f13 Q) (env0 #[Value.pointer p_0]) [] h := by
  refine ⟨_, rfl, ?_⟩
  have hk : ref25_Splitter_Close_b1 p_0 Q h := hk
  have f0 : env0 #[Value.pointer p_0] 0 = Value.pointer p_0 := rfl
  generalize env0 #[Value.pointer p_0] = e at *
  refine EWP.seqR (fun e h => ref25_Splitter_Close_b2 p_0 Q h) ?_ ?_ ?_
  · kernel_rfl
  · skip
    exact eqMp (by as_aux_lemma => kernel_rfl : _ = ref25_Splitter_Close_b1 p_0 Q h) hk
  · intro e h hp hk
    have f0 := (hp 0 (by kernel_rfl)).trans f0
    clear hp
    have he : upd e 0 (Value.pointer p_0) = e := by rw [upd_self f0]
    refine EWP.seqR (fun e h => dS (e 3) fun s_3 => ref25_Splitter_Close_b3 p_0 s_3 Q h) ?_ ?_ ?_
    · kernel_rfl
    · rw [← he]
      exact eqMp (by as_aux_lemma => kernel_rfl : _ = ref25_Splitter_Close_b2 p_0 Q h) hk
    · intro e h hp hk
      have f0 := (hp 0 (by kernel_rfl)).trans f0
      clear hp
      obtain ⟨s_3, f3, hk⟩ := dS_elim hk
      have he : upd e 0 (Value.pointer p_0) = e := by rw [upd_self f0]
      refine EWP.seqR (fun e h => ref25_Splitter_Close_b4 p_0 s_3 Q h) ?_ ?_ ?_
      · kernel_rfl
      · rw [← he]
        exact eqMp (by as_aux_lemma => kernel_rfl : _ = ref25_Splitter_Close_b3 p_0 s_3 Q h) hk
      · intro e h hp hk
        have f0 := (hp 0 (by kernel_rfl)).trans f0
        have f3 := (hp 3 (by kernel_rfl)).trans f3
        clear hp
        refine EWP.seqC (fun e h => e 0 = Value.pointer p_0 ∧ e 3 = Value.string s_3 ∧ ref25_Splitter_Close_b6 p_0 s_3 Q h) ?_ ?_
        · have he : upd e 3 (Value.string s_3) = e := by rw [upd_self f3]
          refine EWP.seqR (fun e h => dB (e 12) fun t12 => if t12 = true then (ref25_Splitter_Close_b5 Q h) else (ref25_Splitter_Close_b6 p_0 s_3 Q h)) ?_ ?_ ?_
          · kernel_rfl
          · rw [← he]
            exact eqMp (by as_aux_lemma => kernel_rfl : _ = ref25_Splitter_Close_b4 p_0 s_3 Q h) hk
          · intro e h hp hk
            have f0 := (hp 0 (by kernel_rfl)).trans f0
            have f3 := (hp 3 (by kernel_rfl)).trans f3
            clear hp
            obtain ⟨t12, f12, hk⟩ := dB_elim hk
            have fc : eev e (.tmp 12) = .bool t12 := f12
            refine EWP.condI fc hk ?_ ?_
            · intro hk
              refine EWP.seqR (fun e h => dL (e 2) fun t2a t2n t2c => Q (Value.slice t2a t2n t2c) h) ?_ ?_ ?_
              · kernel_rfl
              · skip
                exact eqMp (by as_aux_lemma => kernel_rfl : _ = ref25_Splitter_Close_b5 Q h) hk
              · intro e h hp hk
                clear hp
                obtain ⟨t2a, t2n, t2c, f2, hk⟩ := dL_elim hk
                refine EWP.ret ?_
                have he : upd e 2 (Value.slice t2a t2n t2c) = e := by rw [upd_self f2]
                refine (show _ ∧ _ from ⟨rfl, ?_⟩)
                rw [← he]
                exact eqMp (by as_aux_lemma => kernel_rfl : _ = (Q (Value.slice t2a t2n t2c) h)) hk
            · intro hk
              refine EWP.skip ?_
              exact (show _ ∧ _ from ⟨rfl, f0, f3, hk⟩)
        · rintro e h ⟨f0, f3, hk⟩
          have he : upd (upd e 0 (Value.pointer p_0)) 3 (Value.string s_3) = e := by rw [upd_self f0, upd_self f3]
          refine EWP.seqR (fun e h => dL (e 2) fun t2a t2n t2c => Q (Value.slice t2a t2n t2c) h) ?_ ?_ ?_
          · kernel_rfl
          · rw [← he]
            exact eqMp (by as_aux_lemma => kernel_rfl : _ = ref25_Splitter_Close_b6 p_0 s_3 Q h) hk
          · intro e h hp hk
            clear hp
            obtain ⟨t2a, t2n, t2c, f2, hk⟩ := dL_elim hk
            refine EWP.ret ?_
            have he : upd e 2 (Value.slice t2a t2n t2c) = e := by rw [upd_self f2]
            refine (show _ ∧ _ from ⟨rfl, ?_⟩)
            rw [← he]
            exact eqMp (by as_aux_lemma => kernel_rfl : _ = (Q (Value.slice t2a t2n t2c) h)) hk
theorem ref25_Splitter_Close_s (p_0 : Option Addr) {Q : Value → Heap → Prop} {h : Heap} (hk : ref25_Splitter_Close_v p_0 Q h) : CallT Try.prog fn_ref25_Splitter_Close #[Value.pointer p_0] h Q := by
  obtain ⟨c, hb, he⟩ := ref25_Splitter_Close_e p_0 Q h hk
  exact callT_of (N := 17) Try.func13 hb rfl (Try.call13 _) (Nat.le_of_ble_eq_true rfl) he
/-! ### (*intrusion/lines.Splitter).Take -/
def lines_Splitter_Take_b3 (Q : Value → Heap → Prop) (h : Heap) : Prop :=
  Q (Value.string (⟨#[]⟩ : ByteArray)) h
def lines_Splitter_Take_b5 (p_0 : Option Addr) (Q : Value → Heap → Prop) (h : Heap) : Prop :=
  nn p_0 fun t8 => ldI h (Addr.add t8 2) .i64 fun t10 => nn p_0 fun t12 => ldI h t12 .i64 fun t14 => CallT Try.prog fn_lines_Splitter_first #[Value.pointer p_0, Value.int .i64 t10, Value.int .i64 (IntKind.wrap .i64 (t14 + (1 : Int)))] h fun v h1 => ∃ t16 : ByteArray, v = Value.string t16 ∧ CallDT Try.prog fn_lines_Splitter_forget #[Value.pointer p_0] h1 fun h2 => Q (Value.string t16) h2
def lines_Splitter_Take_b4 (p_0 : Option Addr) (Q : Value → Heap → Prop) (h : Heap) : Prop :=
  lines_Splitter_Take_b5 p_0 Q h
def lines_Splitter_Take_b2 (p_0 : Option Addr) (Q : Value → Heap → Prop) (h : Heap) : Prop :=
  if (Option.isNone p_0) = true then (lines_Splitter_Take_b3 Q h) else (lines_Splitter_Take_b4 p_0 Q h)
def lines_Splitter_Take_b1 (p_0 : Option Addr) (Q : Value → Heap → Prop) (h : Heap) : Prop :=
  lines_Splitter_Take_b2 p_0 Q h
def lines_Splitter_Take_v (p_0 : Option Addr) (Q : Value → Heap → Prop) (h : Heap) : Prop :=
  lines_Splitter_Take_b1 p_0 Q h
set_option maxRecDepth 100000 in
theorem lines_Splitter_Take_e (p_0 : Option Addr) (Q : Value → Heap → Prop) (h : Heap) (hk : lines_Splitter_Take_v p_0 Q h) :
    ∃ c, Try.f14.body = some c ∧ EWP Try.prog 17 c (fnPostD Try.prog Try.f14 Q) (env0 #[Value.pointer p_0]) [] h := by
  refine ⟨_, rfl, ?_⟩
  have hk : lines_Splitter_Take_b1 p_0 Q h := hk
  have f0 : env0 #[Value.pointer p_0] 0 = Value.pointer p_0 := rfl
  generalize env0 #[Value.pointer p_0] = e at *
  refine EWP.seqR (fun e h => lines_Splitter_Take_b2 p_0 Q h) ?_ ?_ ?_
  · kernel_rfl
  · skip
    exact eqMp (by as_aux_lemma => kernel_rfl : _ = lines_Splitter_Take_b1 p_0 Q h) hk
  · intro e h hp hk
    have f0 := (hp 0 (by kernel_rfl)).trans f0
    clear hp
    refine EWP.seqC (fun e h => e 0 = Value.pointer p_0 ∧ lines_Splitter_Take_b4 p_0 Q h) ?_ ?_
    · have he : upd e 0 (Value.pointer p_0) = e := by rw [upd_self f0]
      refine EWP.seqR (fun e h => dB (e 4) fun t4 => if t4 = true then (lines_Splitter_Take_b3 Q h) else (lines_Splitter_Take_b4 p_0 Q h)) ?_ ?_ ?_
      · kernel_rfl
      · rw [← he]
        exact eqMp (by as_aux_lemma => kernel_rfl : _ = lines_Splitter_Take_b2 p_0 Q h) hk
      · intro e h hp hk
        have f0 := (hp 0 (by kernel_rfl)).trans f0
        clear hp
        obtain ⟨t4, f4, hk⟩ := dB_elim hk
        have fc : eev e (.tmp 4) = .bool t4 := f4
        refine EWP.condI fc hk ?_ ?_
        · intro hk
          refine EWP.seqR (fun e h => dS (e 2) fun t2 => Q (Value.string t2) h) ?_ ?_ ?_
          · kernel_rfl
          · skip
            exact eqMp (by as_aux_lemma => kernel_rfl : _ = lines_Splitter_Take_b3 Q h) hk
          · intro e h hp hk
            clear hp
            obtain ⟨t2, f2, hk⟩ := dS_elim hk
            refine EWP.ret ?_
            have he : upd e 2 (Value.string t2) = e := by rw [upd_self f2]
            show leavesT _ _ _ _ _ _
            rw [← he]
            exact eqMp (by as_aux_lemma => kernel_rfl : _ = (Q (Value.string t2) h)) hk
        · intro hk
          refine EWP.skip ?_
          exact (show _ ∧ _ from ⟨rfl, f0, hk⟩)
    · rintro e h ⟨f0, hk⟩
      have he : upd e 0 (Value.pointer p_0) = e := by rw [upd_self f0]
      refine EWP.seq (fun e ds h => ds = [({ target := .fn (.func 27) #[], args := #[Value.pointer p_0] } : Deferred)] ∧ e 0 = Value.pointer p_0 ∧ lines_Splitter_Take_b5 p_0 Q h) (EWP.region ?_) ?_
      · rw [← he]
        exact eqMp (by as_aux_lemma => kernel_rfl : _ = ([({ target := .fn (.func 27) #[], args := #[Value.pointer p_0] } : Deferred)] = [({ target := .fn (.func 27) #[], args := #[Value.pointer p_0] } : Deferred)] ∧ Value.pointer p_0 = Value.pointer p_0 ∧ lines_Splitter_Take_b4 p_0 Q h)) ⟨rfl, rfl, hk⟩
      · rintro e ds h ⟨rfl, f0, hk⟩
        have he : upd e 0 (Value.pointer p_0) = e := by rw [upd_self f0]
        refine EWP.seqD (fun e h => dS (e 2) fun t2 => CallDT Try.prog fn_lines_Splitter_forget #[Value.pointer p_0] h fun h4 => Q (Value.string t2) h4) ?_ ?_ ?_ ?_
        · kernel_rfl
        · kernel_rfl
        · rw [← he]
          exact eqMp (by as_aux_lemma => kernel_rfl : _ = lines_Splitter_Take_b5 p_0 Q h) hk
        · intro e h hp hk
          clear hp
          obtain ⟨t2, f2, hk⟩ := dS_elim hk
          refine EWP.ret ?_
          have he : upd e 2 (Value.string t2) = e := by rw [upd_self f2]
          show leavesT _ _ _ _ _ _
          rw [← he]
          exact eqMp (by as_aux_lemma => kernel_rfl : _ = (CallDT Try.prog fn_lines_Splitter_forget #[Value.pointer p_0] h fun h5 => Q (Value.string t2) h5)) hk
theorem lines_Splitter_Take_s (p_0 : Option Addr) {Q : Value → Heap → Prop} {h : Heap} (hk : lines_Splitter_Take_v p_0 Q h) : CallT Try.prog fn_lines_Splitter_Take #[Value.pointer p_0] h Q := by
  obtain ⟨c, hb, he⟩ := lines_Splitter_Take_e p_0 Q h hk
  exact callT_ofD (N := 17) Try.func14 hb rfl (Try.call14 _) (Nat.le_of_ble_eq_true rfl) he
/-! ### (*intrusion/intrusionref25.Splitter).Take -/
def ref25_Splitter_Take_b5 (p_0 : Option Addr) (s_3 : ByteArray) (Q : Value → Heap → Prop) (h : Heap) : Prop :=
  nn p_0 fun t21 => ldI h t21 .i64 fun t23 => sliceStr s_3 none (some (IntKind.wrap .i64 (t23 + (1 : Int)))) fun t25 => Q (Value.string t25) h
def ref25_Splitter_Take_b6 (s_3 : ByteArray) (Q : Value → Heap → Prop) (h : Heap) : Prop :=
  Q (Value.string s_3) h
def ref25_Splitter_Take_b4 (p_0 : Option Addr) (s_3 : ByteArray) (Q : Value → Heap → Prop) (h : Heap) : Prop :=
  nn p_0 fun t14 => ldI h t14 .i64 fun t16 => if (decide (((s_3.size : Nat) : Int) > (IntKind.wrap .i64 (t16 + (1 : Int))))) = true then (ref25_Splitter_Take_b5 p_0 s_3 Q h) else (ref25_Splitter_Take_b6 s_3 Q h)
def ref25_Splitter_Take_b3 (p_0 : Option Addr) (s_3 : ByteArray) (Q : Value → Heap → Prop) (h : Heap) : Prop :=
  nn p_0 fun t9 => st1 h (Addr.add t9 1) (Value.string (⟨#[]⟩ : ByteArray)) fun h1 => ref25_Splitter_Take_b4 p_0 s_3 Q h1
def ref25_Splitter_Take_b2 (p_0 : Option Addr) (Q : Value → Heap → Prop) (h : Heap) : Prop :=
  nn p_0 fun t5 => ldS h (Addr.add t5 1) fun t7 => ref25_Splitter_Take_b3 p_0 t7 Q h
def ref25_Splitter_Take_b1 (p_0 : Option Addr) (Q : Value → Heap → Prop) (h : Heap) : Prop :=
  ref25_Splitter_Take_b2 p_0 Q h
def ref25_Splitter_Take_v (p_0 : Option Addr) (Q : Value → Heap → Prop) (h : Heap) : Prop :=
  ref25_Splitter_Take_b1 p_0 Q h
set_option maxRecDepth 100000 in
theorem ref25_Splitter_Take_e (p_0 : Option Addr) (Q : Value → Heap → Prop) (h : Heap) (hk : ref25_Splitter_Take_v p_0 Q h) :
    ∃ c, Try.f15.body = some c ∧ EWP Try.prog 27 c (fnPost Try.prog Try.f15 Q) (env0 #[Value.pointer p_0]) [] h := by
  refine ⟨_, rfl, ?_⟩
  have hk : ref25_Splitter_Take_b1 p_0 Q h := hk
  have f0 : env0 #[Value.pointer p_0] 0 = Value.pointer p_0 := rfl
  generalize env0 #[Value.pointer p_0] = e at *
  refine EWP.seqR (fun e h => ref25_Splitter_Take_b2 p_0 Q h) ?_ ?_ ?_
  · kernel_rfl
  · skip
    exact eqMp (by as_aux_lemma => kernel_rfl : _ = ref25_Splitter_Take_b1 p_0 Q h) hk
  · intro e h hp hk
    have f0 := (hp 0 (by kernel_rfl)).trans f0
    clear hp
    have he : upd e 0 (Value.pointer p_0) = e := by rw [upd_self f0]
    refine EWP.seqR (fun e h => dS (e 3) fun s_3 => ref25_Splitter_Take_b3 p_0 s_3 Q h) ?_ ?_ ?_
    · kernel_rfl
    · rw [← he]
      exact eqMp (by as_aux_lemma => kernel_rfl : _ = ref25_Splitter_Take_b2 p_0 Q h) hk
    · intro e h hp hk
      have f0 := (hp 0 (by kernel_rfl)).trans f0
      clear hp
      obtain ⟨s_3, f3, hk⟩ := dS_elim hk
      have he : upd e 0 (Value.pointer p_0) = e := by rw [upd_self f0]
      refine EWP.seqR (fun e h => ref25_Splitter_Take_b4 p_0 s_3 Q h) ?_ ?_ ?_
      · kernel_rfl
      · rw [← he]
        exact eqMp (by as_aux_lemma => kernel_rfl : _ = ref25_Splitter_Take_b3 p_0 s_3 Q h) hk
      · intro e h hp hk
        have f0 := (hp 0 (by kernel_rfl)).trans f0
        have f3 := (hp 3 (by kernel_rfl)).trans f3
        clear hp
        refine EWP.seqC (fun e h => e 3 = Value.string s_3 ∧ ref25_Splitter_Take_b6 s_3 Q h) ?_ ?_
        · have he : upd (upd e 0 (Value.pointer p_0)) 3 (Value.string s_3) = e := by rw [upd_self f0, upd_self f3]
          refine EWP.seqR (fun e h => dB (e 18) fun t18 => if t18 = true then (ref25_Splitter_Take_b5 p_0 s_3 Q h) else (ref25_Splitter_Take_b6 s_3 Q h)) ?_ ?_ ?_
          · kernel_rfl
          · rw [← he]
            exact eqMp (by as_aux_lemma => kernel_rfl : _ = ref25_Splitter_Take_b4 p_0 s_3 Q h) hk
          · intro e h hp hk
            have f0 := (hp 0 (by kernel_rfl)).trans f0
            have f3 := (hp 3 (by kernel_rfl)).trans f3
            clear hp
            obtain ⟨t18, f18, hk⟩ := dB_elim hk
            have fc : eev e (.tmp 18) = .bool t18 := f18
            refine EWP.condI fc hk ?_ ?_
            · intro hk
              have he : upd (upd e 0 (Value.pointer p_0)) 3 (Value.string s_3) = e := by rw [upd_self f0, upd_self f3]
              refine EWP.seqR (fun e h => dS (e 2) fun t2 => Q (Value.string t2) h) ?_ ?_ ?_
              · kernel_rfl
              · rw [← he]
                exact eqMp (by as_aux_lemma => kernel_rfl : _ = ref25_Splitter_Take_b5 p_0 s_3 Q h) hk
              · intro e h hp hk
                clear hp
                obtain ⟨t2, f2, hk⟩ := dS_elim hk
                refine EWP.ret ?_
                have he : upd e 2 (Value.string t2) = e := by rw [upd_self f2]
                refine (show _ ∧ _ from ⟨rfl, ?_⟩)
                rw [← he]
                exact eqMp (by as_aux_lemma => kernel_rfl : _ = (Q (Value.string t2) h)) hk
            · intro hk
              refine EWP.skip ?_
              exact (show _ ∧ _ from ⟨rfl, f3, hk⟩)
        · rintro e h ⟨f3, hk⟩
          have he : upd e 3 (Value.string s_3) = e := by rw [upd_self f3]
          refine EWP.seqR (fun e h => dS (e 2) fun t2 => Q (Value.string t2) h) ?_ ?_ ?_
          · kernel_rfl
          · rw [← he]
            exact eqMp (by as_aux_lemma => kernel_rfl : _ = ref25_Splitter_Take_b6 s_3 Q h) hk
          · intro e h hp hk
            clear hp
            obtain ⟨t2, f2, hk⟩ := dS_elim hk
            refine EWP.ret ?_
            have he : upd e 2 (Value.string t2) = e := by rw [upd_self f2]
            refine (show _ ∧ _ from ⟨rfl, ?_⟩)
            rw [← he]
            exact eqMp (by as_aux_lemma => kernel_rfl : _ = (Q (Value.string t2) h)) hk
theorem ref25_Splitter_Take_s (p_0 : Option Addr) {Q : Value → Heap → Prop} {h : Heap} (hk : ref25_Splitter_Take_v p_0 Q h) : CallT Try.prog fn_ref25_Splitter_Take #[Value.pointer p_0] h Q := by
  obtain ⟨c, hb, he⟩ := ref25_Splitter_Take_e p_0 Q h hk
  exact callT_of (N := 27) Try.func15 hb rfl (Try.call15 _) (Nat.le_of_ble_eq_true rfl) he
/-! ### (*intrusion/lines.Splitter).Rest -/
def lines_Splitter_Rest_b3 (Q : Value → Heap → Prop) (h : Heap) : Prop :=
  Q (Value.string (⟨#[]⟩ : ByteArray)) h
def lines_Splitter_Rest_b4 (p_0 : Option Addr) (Q : Value → Heap → Prop) (h : Heap) : Prop :=
  nn p_0 fun t9 => ldI h t9 .i64 fun t11 => CallT Try.prog fn_lines_Splitter_length #[Value.pointer p_0] h fun v h1 => ∃ t7 : Int, v = Value.int .i64 t7 ∧ (ldI h1 t9 .i64 fun t911 => Value.int .i64 t911 = Value.int .i64 t11) ∧ CallT Try.prog fn_lines_Splitter_first #[Value.pointer p_0, Value.int .i64 t7, Value.int .i64 t11] h1 fun v h2 => ∃ t12 : ByteArray, v = Value.string t12 ∧ Q (Value.string t12) h2
def lines_Splitter_Rest_b2 (p_0 : Option Addr) (Q : Value → Heap → Prop) (h : Heap) : Prop :=
  if (Option.isNone p_0) = true then (lines_Splitter_Rest_b3 Q h) else (lines_Splitter_Rest_b4 p_0 Q h)
def lines_Splitter_Rest_b1 (p_0 : Option Addr) (Q : Value → Heap → Prop) (h : Heap) : Prop :=
  lines_Splitter_Rest_b2 p_0 Q h
def lines_Splitter_Rest_v (p_0 : Option Addr) (Q : Value → Heap → Prop) (h : Heap) : Prop :=
  lines_Splitter_Rest_b1 p_0 Q h
set_option maxRecDepth 100000 in
theorem lines_Splitter_Rest_e (p_0 : Option Addr) (Q : Value → Heap → Prop) (h : Heap) (hk : lines_Splitter_Rest_v p_0 Q h) :
    ∃ c, Try.f16.body = some c ∧ EWP Try.prog 13 c (fnPost Try.prog Try.f16 Q) (env0 #[Value.pointer p_0]) [] h := by
  refine ⟨_, rfl, ?_⟩
  have hk : lines_Splitter_Rest_b1 p_0 Q h := hk
  have f0 : env0 #[Value.pointer p_0] 0 = Value.pointer p_0 := rfl
  generalize env0 #[Value.pointer p_0] = e at *
  refine EWP.seqR (fun e h => lines_Splitter_Rest_b2 p_0 Q h) ?_ ?_ ?_
  · kernel_rfl
  · skip
    exact eqMp (by as_aux_lemma => kernel_rfl : _ = lines_Splitter_Rest_b1 p_0 Q h) hk
  · intro e h hp hk
    have f0 := (hp 0 (by kernel_rfl)).trans f0
    clear hp
    refine EWP.seqC (fun e h => e 0 = Value.pointer p_0 ∧ lines_Splitter_Rest_b4 p_0 Q h) ?_ ?_
    · have he : upd e 0 (Value.pointer p_0) = e := by rw [upd_self f0]
      refine EWP.seqR (fun e h => dB (e 4) fun t4 => if t4 = true then (lines_Splitter_Rest_b3 Q h) else (lines_Splitter_Rest_b4 p_0 Q h)) ?_ ?_ ?_
      · kernel_rfl
      · rw [← he]
        exact eqMp (by as_aux_lemma => kernel_rfl : _ = lines_Splitter_Rest_b2 p_0 Q h) hk
      · intro e h hp hk
        have f0 := (hp 0 (by kernel_rfl)).trans f0
        clear hp
        obtain ⟨t4, f4, hk⟩ := dB_elim hk
        have fc : eev e (.tmp 4) = .bool t4 := f4
        refine EWP.condI fc hk ?_ ?_
        · intro hk
          refine EWP.seqR (fun e h => dS (e 2) fun t2 => Q (Value.string t2) h) ?_ ?_ ?_
          · kernel_rfl
          · skip
            exact eqMp (by as_aux_lemma => kernel_rfl : _ = lines_Splitter_Rest_b3 Q h) hk
          · intro e h hp hk
            clear hp
            obtain ⟨t2, f2, hk⟩ := dS_elim hk
            refine EWP.ret ?_
            have he : upd e 2 (Value.string t2) = e := by rw [upd_self f2]
            refine (show _ ∧ _ from ⟨rfl, ?_⟩)
            rw [← he]
            exact eqMp (by as_aux_lemma => kernel_rfl : _ = (Q (Value.string t2) h)) hk
        · intro hk
          refine EWP.skip ?_
          exact (show _ ∧ _ from ⟨rfl, f0, hk⟩)
    · rintro e h ⟨f0, hk⟩
      have he : upd e 0 (Value.pointer p_0) = e := by rw [upd_self f0]
      refine EWP.seqD (fun e h => dS (e 2) fun t2 => Q (Value.string t2) h) ?_ ?_ ?_ ?_
      · kernel_rfl
      · kernel_rfl
      · rw [← he]
        exact eqMp (by as_aux_lemma => kernel_rfl : _ = lines_Splitter_Rest_b4 p_0 Q h) hk
      · intro e h hp hk
        clear hp
        obtain ⟨t2, f2, hk⟩ := dS_elim hk
        refine EWP.ret ?_
        have he : upd e 2 (Value.string t2) = e := by rw [upd_self f2]
        refine (show _ ∧ _ from ⟨rfl, ?_⟩)
        rw [← he]
        exact eqMp (by as_aux_lemma => kernel_rfl : _ = (Q (Value.string t2) h)) hk
theorem lines_Splitter_Rest_s (p_0 : Option Addr) {Q : Value → Heap → Prop} {h : Heap} (hk : lines_Splitter_Rest_v p_0 Q h) : CallT Try.prog fn_lines_Splitter_Rest #[Value.pointer p_0] h Q := by
  obtain ⟨c, hb, he⟩ := lines_Splitter_Rest_e p_0 Q h hk
  exact callT_of (N := 13) Try.func16 hb rfl (Try.call16 _) (Nat.le_of_ble_eq_true rfl) he
/-! ### (*intrusion/intrusionref25.Splitter).Rest -/
def ref25_Splitter_Rest_b2 (p_0 : Option Addr) (Q : Value → Heap → Prop) (h : Heap) : Prop :=
  nn p_0 fun t5 => ldS h (Addr.add t5 1) fun t7 => CallT Try.prog fn_ref25_bare #[Value.string t7] h fun v h1 => ∃ t8 : ByteArray, v = Value.string t8 ∧ CallT Try.prog fn_ref25_Splitter_line #[Value.pointer p_0, Value.string t8] h1 fun v h2 => ∃ t9_0 : ByteArray, ∃ t9_1 : Bool, v = Value.agg #[Value.string t9_0, Value.bool t9_1] ∧ Q (Value.string t9_0) h2
def ref25_Splitter_Rest_b1 (p_0 : Option Addr) (Q : Value → Heap → Prop) (h : Heap) : Prop :=
  ref25_Splitter_Rest_b2 p_0 Q h
def ref25_Splitter_Rest_v (p_0 : Option Addr) (Q : Value → Heap → Prop) (h : Heap) : Prop :=
  ref25_Splitter_Rest_b1 p_0 Q h
set_option maxRecDepth 100000 in
theorem ref25_Splitter_Rest_e (p_0 : Option Addr) (Q : Value → Heap → Prop) (h : Heap) (hk : ref25_Splitter_Rest_v p_0 Q h) :
    ∃ c, Try.f17.body = some c ∧ EWP Try.prog 11 c (fnPost Try.prog Try.f17 Q) (env0 #[Value.pointer p_0]) [] h := by
  refine ⟨_, rfl, ?_⟩
  have hk : ref25_Splitter_Rest_b1 p_0 Q h := hk
  have f0 : env0 #[Value.pointer p_0] 0 = Value.pointer p_0 := rfl
  generalize env0 #[Value.pointer p_0] = e at *
  refine EWP.seqR (fun e h => ref25_Splitter_Rest_b2 p_0 Q h) ?_ ?_ ?_
  · kernel_rfl
  · skip
    exact eqMp (by as_aux_lemma => kernel_rfl : _ = ref25_Splitter_Rest_b1 p_0 Q h) hk
  · intro e h hp hk
    have f0 := (hp 0 (by kernel_rfl)).trans f0
    clear hp
    have he : upd e 0 (Value.pointer p_0) = e := by rw [upd_self f0]
    refine EWP.seqR (fun e h => dS (e 2) fun t2 => Q (Value.string t2) h) ?_ ?_ ?_
    · kernel_rfl
    · rw [← he]
      exact eqMp (by as_aux_lemma => kernel_rfl : _ = ref25_Splitter_Rest_b2 p_0 Q h) hk
    · intro e h hp hk
      clear hp
      obtain ⟨t2, f2, hk⟩ := dS_elim hk
      refine EWP.ret ?_
      have he : upd e 2 (Value.string t2) = e := by rw [upd_self f2]
      refine (show _ ∧ _ from ⟨rfl, ?_⟩)
      rw [← he]
      exact eqMp (by as_aux_lemma => kernel_rfl : _ = (Q (Value.string t2) h)) hk
theorem ref25_Splitter_Rest_s (p_0 : Option Addr) {Q : Value → Heap → Prop} {h : Heap} (hk : ref25_Splitter_Rest_v p_0 Q h) : CallT Try.prog fn_ref25_Splitter_Rest #[Value.pointer p_0] h Q := by
  obtain ⟨c, hb, he⟩ := ref25_Splitter_Rest_e p_0 Q h hk
  exact callT_of (N := 11) Try.func17 hb rfl (Try.call17 _) (Nat.le_of_ble_eq_true rfl) he
/-! ### intrusion/lines.Split -/
def lines_Split_b4 (p_5 : Option Addr) (out_6a : Option Addr) (out_6n : Nat) (out_6c : Nat) (Q : Value → Heap → Prop) (h : Heap) : Prop :=
  CallT Try.prog fn_lines_Splitter_Close #[Value.pointer p_5] h fun v h3 => ∃ t14a : Option Addr, ∃ t14n : Nat, ∃ t14c : Nat, v = Value.slice t14a t14n t14c ∧ bltV Try.prog .append #[31, 31] 31 #[false, false] #[Value.slice out_6a out_6n out_6c, Value.slice t14a t14n t14c] h3 fun v h4 => ∃ t15a : Option Addr, ∃ t15n : Nat, ∃ t15c : Nat, v = Value.slice t15a t15n t15c ∧ Q (Value.slice t15a t15n t15c) h4
def lines_Split_b3 (s_0 : ByteArray) (p_5 : Option Addr) (Q : Value → Heap → Prop) (h : Heap) : Prop :=
  CallT Try.prog fn_lines_Splitter_Feed #[Value.pointer p_5, Value.string s_0] h fun v h2 => ∃ t11a : Option Addr, ∃ t11n : Nat, ∃ t11c : Nat, v = Value.slice t11a t11n t11c ∧ lines_Split_b4 p_5 t11a t11n t11c Q h2
def lines_Split_b2 (s_0 : ByteArray) (max_1 : Int) (Q : Value → Heap → Prop) (h : Heap) : Prop :=
  CallT Try.prog fn_lines_New #[Value.int .i64 max_1] h fun v h1 => ∃ t8 : Option Addr, v = Value.pointer t8 ∧ lines_Split_b3 s_0 t8 Q h1
def lines_Split_b1 (s_0 : ByteArray) (max_1 : Int) (Q : Value → Heap → Prop) (h : Heap) : Prop :=
  lines_Split_b2 s_0 max_1 Q h
def lines_Split_v (s_0 : ByteArray) (max_1 : Int) (Q : Value → Heap → Prop) (h : Heap) : Prop :=
  lines_Split_b1 s_0 max_1 Q h
set_option maxRecDepth 100000 in
theorem lines_Split_e (s_0 : ByteArray) (max_1 : Int) (Q : Value → Heap → Prop) (h : Heap) (hk : lines_Split_v s_0 max_1 Q h) :
    ∃ c, Try.f18.body = some c ∧ EWP Try.prog 16 c (fnPost Try.prog Try.f18 Q) (env0 #[Value.string s_0, Value.int .i64 max_1]) [] h := by
  refine ⟨_, rfl, ?_⟩
  have hk : lines_Split_b1 s_0 max_1 Q h := hk
  have f0 : env0 #[Value.string s_0, Value.int .i64 max_1] 0 = Value.string s_0 := rfl
  have f1 : env0 #[Value.string s_0, Value.int .i64 max_1] 1 = Value.int .i64 max_1 := rfl
  generalize env0 #[Value.string s_0, Value.int .i64 max_1] = e at *
  refine EWP.seqR (fun e h => lines_Split_b2 s_0 max_1 Q h) ?_ ?_ ?_
  · kernel_rfl
  · skip
    exact eqMp (by as_aux_lemma => kernel_rfl : _ = lines_Split_b1 s_0 max_1 Q h) hk
  · intro e h hp hk
    have f0 := (hp 0 (by kernel_rfl)).trans f0
    have f1 := (hp 1 (by kernel_rfl)).trans f1
    clear hp
    have he : upd e 1 (Value.int .i64 max_1) = e := by rw [upd_self f1]
    refine EWP.seqR (fun e h => dP (e 5) fun p_5 => lines_Split_b3 s_0 p_5 Q h) ?_ ?_ ?_
    · kernel_rfl
    · rw [← he]
      exact eqMp (by as_aux_lemma => kernel_rfl : _ = lines_Split_b2 s_0 max_1 Q h) hk
    · intro e h hp hk
      have f0 := (hp 0 (by kernel_rfl)).trans f0
      clear hp
      obtain ⟨p_5, f5, hk⟩ := dP_elim hk
      have he : upd (upd e 0 (Value.string s_0)) 5 (Value.pointer p_5) = e := by rw [upd_self f0, upd_self f5]
      refine EWP.seqR (fun e h => dL (e 6) fun out_6a out_6n out_6c => lines_Split_b4 p_5 out_6a out_6n out_6c Q h) ?_ ?_ ?_
      · kernel_rfl
      · rw [← he]
        exact eqMp (by as_aux_lemma => kernel_rfl : _ = lines_Split_b3 s_0 p_5 Q h) hk
      · intro e h hp hk
        have f5 := (hp 5 (by kernel_rfl)).trans f5
        clear hp
        obtain ⟨out_6a, out_6n, out_6c, f6, hk⟩ := dL_elim hk
        have he : upd (upd e 5 (Value.pointer p_5)) 6 (Value.slice out_6a out_6n out_6c) = e := by rw [upd_self f5, upd_self f6]
        refine EWP.seqR (fun e h => dL (e 4) fun t4a t4n t4c => Q (Value.slice t4a t4n t4c) h) ?_ ?_ ?_
        · kernel_rfl
        · rw [← he]
          exact eqMp (by as_aux_lemma => kernel_rfl : _ = lines_Split_b4 p_5 out_6a out_6n out_6c Q h) hk
        · intro e h hp hk
          clear hp
          obtain ⟨t4a, t4n, t4c, f4, hk⟩ := dL_elim hk
          refine EWP.ret ?_
          have he : upd e 4 (Value.slice t4a t4n t4c) = e := by rw [upd_self f4]
          refine (show _ ∧ _ from ⟨rfl, ?_⟩)
          rw [← he]
          exact eqMp (by as_aux_lemma => kernel_rfl : _ = (Q (Value.slice t4a t4n t4c) h)) hk
theorem lines_Split_s (s_0 : ByteArray) (max_1 : Int) {Q : Value → Heap → Prop} {h : Heap} (hk : lines_Split_v s_0 max_1 Q h) : CallT Try.prog fn_lines_Split #[Value.string s_0, Value.int .i64 max_1] h Q := by
  obtain ⟨c, hb, he⟩ := lines_Split_e s_0 max_1 Q h hk
  exact callT_of (N := 16) Try.func18 hb rfl (Try.call18 _) (Nat.le_of_ble_eq_true rfl) he
/-! ### intrusion/lines.bound -/
def lines_bound_b2 (n_0 : Int) (Q : Value → Heap → Prop) (h : Heap) : Prop :=
  Q (Value.int .i64 (if (512 : Int) < (if (1 : Int) > n_0 then (1 : Int) else n_0) then (512 : Int) else (if (1 : Int) > n_0 then (1 : Int) else n_0))) h
def lines_bound_b1 (n_0 : Int) (Q : Value → Heap → Prop) (h : Heap) : Prop :=
  lines_bound_b2 n_0 Q h
def lines_bound_v (n_0 : Int) (Q : Value → Heap → Prop) (h : Heap) : Prop :=
  lines_bound_b1 n_0 Q h
set_option maxRecDepth 100000 in
theorem lines_bound_e (n_0 : Int) (Q : Value → Heap → Prop) (h : Heap) (hk : lines_bound_v n_0 Q h) :
    ∃ c, Try.f19.body = some c ∧ EWP Try.prog 6 c (fnPost Try.prog Try.f19 Q) (env0 #[Value.int .i64 n_0]) [] h := by
  refine ⟨_, rfl, ?_⟩
  have hk : lines_bound_b1 n_0 Q h := hk
  have f0 : env0 #[Value.int .i64 n_0] 0 = Value.int .i64 n_0 := rfl
  generalize env0 #[Value.int .i64 n_0] = e at *
  refine EWP.seqR (fun e h => lines_bound_b2 n_0 Q h) ?_ ?_ ?_
  · kernel_rfl
  · skip
    exact eqMp (by as_aux_lemma => kernel_rfl : _ = lines_bound_b1 n_0 Q h) hk
  · intro e h hp hk
    have f0 := (hp 0 (by kernel_rfl)).trans f0
    clear hp
    have he : upd e 0 (Value.int .i64 n_0) = e := by rw [upd_self f0]
    refine EWP.seqR (fun e h => dI .i64 (e 2) fun t2 => Q (Value.int .i64 t2) h) ?_ ?_ ?_
    · kernel_rfl
    · rw [← he]
      exact eqMp (by as_aux_lemma => kernel_rfl : _ = lines_bound_b2 n_0 Q h) hk
    · intro e h hp hk
      clear hp
      obtain ⟨t2, f2, hk⟩ := dI_elim hk
      refine EWP.ret ?_
      have he : upd e 2 (Value.int .i64 t2) = e := by rw [upd_self f2]
      refine (show _ ∧ _ from ⟨rfl, ?_⟩)
      rw [← he]
      exact eqMp (by as_aux_lemma => kernel_rfl : _ = (Q (Value.int .i64 t2) h)) hk
theorem lines_bound_s (n_0 : Int) {Q : Value → Heap → Prop} {h : Heap} (hk : lines_bound_v n_0 Q h) : CallT Try.prog fn_lines_bound #[Value.int .i64 n_0] h Q := by
  obtain ⟨c, hb, he⟩ := lines_bound_e n_0 Q h hk
  exact callT_of (N := 6) Try.func19 hb rfl (Try.call19 _) (Nat.le_of_ble_eq_true rfl) he
/-! ### (*intrusion/lines.Splitter).Feed$1 -/
def lines_Splitter_Feed_1_b4 (Q : Value → Heap → Prop) (h : Heap) : Prop :=
  Q (Value.bool false) h
def lines_Splitter_Feed_1_b8 (Q : Value → Heap → Prop) (h : Heap) : Prop :=
  Q (Value.bool true) h
def lines_Splitter_Feed_1_b7 (t0 : Addr) (i_4 : Int) (Q : Value → Heap → Prop) (h : Heap) : Prop :=
  ldS h t0 fun t21 => sliceStr t21 (some (IntKind.wrap .i64 (i_4 + (1 : Int)))) none fun t24 => st1 h t0 (Value.string t24) fun h8 => lines_Splitter_Feed_1_b8 Q h8
def lines_Splitter_Feed_1_b6 (t0 : Addr) (t1 : Addr) (t2 : Addr) (i_4 : Int) (Q : Value → Heap → Prop) (h : Heap) : Prop :=
  ldL h t2 fun t14a t14n t14c => ldP h t1 fun t15 => ldP h t1 fun t16 => CallT Try.prog fn_lines_Splitter_length #[Value.pointer t16] h fun v h3 => ∃ t17 : Int, v = Value.int .i64 t17 ∧ (ldL h3 t2 fun t914a t914n t914c => Value.slice t914a t914n t914c = Value.slice t14a t14n t14c) ∧ (ldP h3 t1 fun t915 => Value.pointer t915 = Value.pointer t15) ∧ CallT Try.prog fn_lines_Splitter_line #[Value.pointer t15, Value.int .i64 t17] h3 fun v h4 => ∃ t18_0 : ByteArray, ∃ t18_1 : Bool, v = Value.agg #[Value.string t18_0, Value.bool t18_1] ∧ (ldL h4 t2 fun t914a t914n t914c => Value.slice t914a t914n t914c = Value.slice t14a t14n t14c) ∧ alV h4 (.cells #[Value.string t18_0, Value.bool t18_1] 38) fun t19 h5 => (ldL h5 t2 fun t914a t914n t914c => Value.slice t914a t914n t914c = Value.slice t14a t14n t14c) ∧ bltV Try.prog .append #[31, 31] 31 #[false, false] #[Value.slice t14a t14n t14c, Value.slice (some t19) 1 1] h5 fun v h6 => ∃ t20a : Option Addr, ∃ t20n : Nat, ∃ t20c : Nat, v = Value.slice t20a t20n t20c ∧ st1 h6 t2 (Value.slice t20a t20n t20c) fun h7 => lines_Splitter_Feed_1_b7 t0 i_4 Q h7
def lines_Splitter_Feed_1_b5 (t0 : Addr) (t1 : Addr) (t2 : Addr) (i_4 : Int) (Q : Value → Heap → Prop) (h : Heap) : Prop :=
  ldP h t1 fun t9 => ldS h t0 fun t10 => sliceStr t10 none (some i_4) fun t12 => CallT Try.prog fn_lines_Splitter_append #[Value.pointer t9, Value.string t12] h fun v h2 => v = Value.tuple #[] ∧ lines_Splitter_Feed_1_b6 t0 t1 t2 i_4 Q h2
def lines_Splitter_Feed_1_b3 (t0 : Addr) (t1 : Addr) (t2 : Addr) (i_4 : Int) (Q : Value → Heap → Prop) (h : Heap) : Prop :=
  if (decide (i_4 < (0 : Int))) = true then (lines_Splitter_Feed_1_b4 Q h) else (lines_Splitter_Feed_1_b5 t0 t1 t2 i_4 Q h)
def lines_Splitter_Feed_1_b2 (t0 : Addr) (t1 : Addr) (t2 : Addr) (Q : Value → Heap → Prop) (h : Heap) : Prop :=
  ldS h t0 fun t5 => CallT Try.prog fn_strings_IndexByte #[Value.string t5, Value.int .u8 (10 : Int)] h fun v h1 => ∃ t6 : Int, v = Value.int .i64 t6 ∧ lines_Splitter_Feed_1_b3 t0 t1 t2 t6 Q h1
def lines_Splitter_Feed_1_b1 (t0 : Addr) (t1 : Addr) (t2 : Addr) (Q : Value → Heap → Prop) (h : Heap) : Prop :=
  lines_Splitter_Feed_1_b2 t0 t1 t2 Q h
def lines_Splitter_Feed_1_v (t0 : Addr) (t1 : Addr) (t2 : Addr) (Q : Value → Heap → Prop) (h : Heap) : Prop :=
  lines_Splitter_Feed_1_b1 t0 t1 t2 Q h
set_option maxRecDepth 100000 in
theorem lines_Splitter_Feed_1_e (t0 : Addr) (t1 : Addr) (t2 : Addr) (Q : Value → Heap → Prop) (h : Heap) (hk : lines_Splitter_Feed_1_v t0 t1 t2 Q h) :
    ∃ c, Try.f20.body = some c ∧ EWP Try.prog 25 c (fnPost Try.prog Try.f20 Q) (env0 #[Value.pointer (some t0), Value.pointer (some t1), Value.pointer (some t2)]) [] h := by
  refine ⟨_, rfl, ?_⟩
  have hk : lines_Splitter_Feed_1_b1 t0 t1 t2 Q h := hk
  have f0 : env0 #[Value.pointer (some t0), Value.pointer (some t1), Value.pointer (some t2)] 0 = Value.pointer (some t0) := rfl
  have f1 : env0 #[Value.pointer (some t0), Value.pointer (some t1), Value.pointer (some t2)] 1 = Value.pointer (some t1) := rfl
  have f2 : env0 #[Value.pointer (some t0), Value.pointer (some t1), Value.pointer (some t2)] 2 = Value.pointer (some t2) := rfl
  generalize env0 #[Value.pointer (some t0), Value.pointer (some t1), Value.pointer (some t2)] = e at *
  refine EWP.seqR (fun e h => lines_Splitter_Feed_1_b2 t0 t1 t2 Q h) ?_ ?_ ?_
  · kernel_rfl
  · skip
    exact eqMp (by as_aux_lemma => kernel_rfl : _ = lines_Splitter_Feed_1_b1 t0 t1 t2 Q h) hk
  · intro e h hp hk
    have f0 := (hp 0 (by kernel_rfl)).trans f0
    have f1 := (hp 1 (by kernel_rfl)).trans f1
    have f2 := (hp 2 (by kernel_rfl)).trans f2
    clear hp
    have he : upd e 0 (Value.pointer (some t0)) = e := by rw [upd_self f0]
    refine EWP.seqR (fun e h => dI .i64 (e 4) fun i_4 => lines_Splitter_Feed_1_b3 t0 t1 t2 i_4 Q h) ?_ ?_ ?_
    · kernel_rfl
    · rw [← he]
      exact eqMp (by as_aux_lemma => kernel_rfl : _ = lines_Splitter_Feed_1_b2 t0 t1 t2 Q h) hk
    · intro e h hp hk
      have f0 := (hp 0 (by kernel_rfl)).trans f0
      have f1 := (hp 1 (by kernel_rfl)).trans f1
      have f2 := (hp 2 (by kernel_rfl)).trans f2
      clear hp
      obtain ⟨i_4, f4, hk⟩ := dI_elim hk
      refine EWP.seqC (fun e h => e 0 = Value.pointer (some t0) ∧ e 1 = Value.pointer (some t1) ∧ e 2 = Value.pointer (some t2) ∧ e 4 = Value.int .i64 i_4 ∧ lines_Splitter_Feed_1_b5 t0 t1 t2 i_4 Q h) ?_ ?_
      · have he : upd e 4 (Value.int .i64 i_4) = e := by rw [upd_self f4]
        refine EWP.seqR (fun e h => dB (e 8) fun t8 => if t8 = true then (lines_Splitter_Feed_1_b4 Q h) else (lines_Splitter_Feed_1_b5 t0 t1 t2 i_4 Q h)) ?_ ?_ ?_
        · kernel_rfl
        · rw [← he]
          exact eqMp (by as_aux_lemma => kernel_rfl : _ = lines_Splitter_Feed_1_b3 t0 t1 t2 i_4 Q h) hk
        · intro e h hp hk
          have f0 := (hp 0 (by kernel_rfl)).trans f0
          have f1 := (hp 1 (by kernel_rfl)).trans f1
          have f2 := (hp 2 (by kernel_rfl)).trans f2
          have f4 := (hp 4 (by kernel_rfl)).trans f4
          clear hp
          obtain ⟨t8, f8, hk⟩ := dB_elim hk
          have fc : eev e (.tmp 8) = .bool t8 := f8
          refine EWP.condI fc hk ?_ ?_
          · intro hk
            refine EWP.seqR (fun e h => dB (e 3) fun t3 => Q (Value.bool t3) h) ?_ ?_ ?_
            · kernel_rfl
            · skip
              exact eqMp (by as_aux_lemma => kernel_rfl : _ = lines_Splitter_Feed_1_b4 Q h) hk
            · intro e h hp hk
              clear hp
              obtain ⟨t3, f3, hk⟩ := dB_elim hk
              refine EWP.ret ?_
              have he : upd e 3 (Value.bool t3) = e := by rw [upd_self f3]
              refine (show _ ∧ _ from ⟨rfl, ?_⟩)
              rw [← he]
              exact eqMp (by as_aux_lemma => kernel_rfl : _ = (Q (Value.bool t3) h)) hk
          · intro hk
            refine EWP.skip ?_
            exact (show _ ∧ _ from ⟨rfl, f0, f1, f2, f4, hk⟩)
      · rintro e h ⟨f0, f1, f2, f4, hk⟩
        have he : upd (upd (upd e 0 (Value.pointer (some t0))) 1 (Value.pointer (some t1))) 4 (Value.int .i64 i_4) = e := by rw [upd_self f0, upd_self f1, upd_self f4]
        refine EWP.seqD (fun e h => lines_Splitter_Feed_1_b6 t0 t1 t2 i_4 Q h) ?_ ?_ ?_ ?_
        · kernel_rfl
        · kernel_rfl
        · rw [← he]
          exact eqMp (by as_aux_lemma => kernel_rfl : _ = lines_Splitter_Feed_1_b5 t0 t1 t2 i_4 Q h) hk
        · intro e h hp hk
          have f0 := (hp 0 (by kernel_rfl)).trans f0
          have f1 := (hp 1 (by kernel_rfl)).trans f1
          have f2 := (hp 2 (by kernel_rfl)).trans f2
          have f4 := (hp 4 (by kernel_rfl)).trans f4
          clear hp
          have he : upd (upd e 1 (Value.pointer (some t1))) 2 (Value.pointer (some t2)) = e := by rw [upd_self f1, upd_self f2]
          refine EWP.seqD (fun e h => lines_Splitter_Feed_1_b7 t0 i_4 Q h) ?_ ?_ ?_ ?_
          · kernel_rfl
          · kernel_rfl
          · rw [← he]
            exact eqMp (by as_aux_lemma => kernel_rfl : _ = lines_Splitter_Feed_1_b6 t0 t1 t2 i_4 Q h) hk
          · intro e h hp hk
            have f0 := (hp 0 (by kernel_rfl)).trans f0
            have f4 := (hp 4 (by kernel_rfl)).trans f4
            clear hp
            have he : upd (upd e 0 (Value.pointer (some t0))) 4 (Value.int .i64 i_4) = e := by rw [upd_self f0, upd_self f4]
            refine EWP.seqR (fun e h => lines_Splitter_Feed_1_b8 Q h) ?_ ?_ ?_
            · kernel_rfl
            · rw [← he]
              exact eqMp (by as_aux_lemma => kernel_rfl : _ = lines_Splitter_Feed_1_b7 t0 i_4 Q h) hk
            · intro e h hp hk
              clear hp
              refine EWP.seqR (fun e h => dB (e 3) fun t3 => Q (Value.bool t3) h) ?_ ?_ ?_
              · kernel_rfl
              · skip
                exact eqMp (by as_aux_lemma => kernel_rfl : _ = lines_Splitter_Feed_1_b8 Q h) hk
              · intro e h hp hk
                clear hp
                obtain ⟨t3, f3, hk⟩ := dB_elim hk
                refine EWP.ret ?_
                have he : upd e 3 (Value.bool t3) = e := by rw [upd_self f3]
                refine (show _ ∧ _ from ⟨rfl, ?_⟩)
                rw [← he]
                exact eqMp (by as_aux_lemma => kernel_rfl : _ = (Q (Value.bool t3) h)) hk
theorem lines_Splitter_Feed_1_s (t0 : Addr) (t1 : Addr) (t2 : Addr) {Q : Value → Heap → Prop} {h : Heap} (hk : lines_Splitter_Feed_1_v t0 t1 t2 Q h) : CallT Try.prog fn_lines_Splitter_Feed_1 #[Value.pointer (some t0), Value.pointer (some t1), Value.pointer (some t2)] h Q := by
  obtain ⟨c, hb, he⟩ := lines_Splitter_Feed_1_e t0 t1 t2 Q h hk
  exact callT_of (N := 25) Try.func20 hb rfl (Try.call20 _) (Nat.le_of_ble_eq_true rfl) he
/-! ### strings.IndexByte -/
def strings_IndexByte_b2 (s_0 : ByteArray) (c_1 : Int) (Q : Value → Heap → Prop) (h : Heap) : Prop :=
  CallT Try.prog fn_internal_stringslite_IndexByte #[Value.string s_0, Value.int .u8 c_1] h fun v h1 => ∃ t7 : Int, v = Value.int .i64 t7 ∧ Q (Value.int .i64 t7) h1
def strings_IndexByte_b1 (s_0 : ByteArray) (c_1 : Int) (Q : Value → Heap → Prop) (h : Heap) : Prop :=
  strings_IndexByte_b2 s_0 c_1 Q h
def strings_IndexByte_v (s_0 : ByteArray) (c_1 : Int) (Q : Value → Heap → Prop) (h : Heap) : Prop :=
  strings_IndexByte_b1 s_0 c_1 Q h
set_option maxRecDepth 100000 in
theorem strings_IndexByte_e (s_0 : ByteArray) (c_1 : Int) (Q : Value → Heap → Prop) (h : Heap) (hk : strings_IndexByte_v s_0 c_1 Q h) :
    ∃ c, Try.f21.body = some c ∧ EWP Try.prog 8 c (fnPost Try.prog Try.f21 Q) (env0 #[Value.string s_0, Value.int .u8 c_1]) [] h := by
  refine ⟨_, rfl, ?_⟩
  have hk : strings_IndexByte_b1 s_0 c_1 Q h := hk
  have f0 : env0 #[Value.string s_0, Value.int .u8 c_1] 0 = Value.string s_0 := rfl
  have f1 : env0 #[Value.string s_0, Value.int .u8 c_1] 1 = Value.int .u8 c_1 := rfl
  generalize env0 #[Value.string s_0, Value.int .u8 c_1] = e at *
  refine EWP.seqR (fun e h => strings_IndexByte_b2 s_0 c_1 Q h) ?_ ?_ ?_
  · kernel_rfl
  · skip
    exact eqMp (by as_aux_lemma => kernel_rfl : _ = strings_IndexByte_b1 s_0 c_1 Q h) hk
  · intro e h hp hk
    have f0 := (hp 0 (by kernel_rfl)).trans f0
    have f1 := (hp 1 (by kernel_rfl)).trans f1
    clear hp
    have he : upd (upd e 0 (Value.string s_0)) 1 (Value.int .u8 c_1) = e := by rw [upd_self f0, upd_self f1]
    refine EWP.seqR (fun e h => dI .i64 (e 4) fun t4 => Q (Value.int .i64 t4) h) ?_ ?_ ?_
    · kernel_rfl
    · rw [← he]
      exact eqMp (by as_aux_lemma => kernel_rfl : _ = strings_IndexByte_b2 s_0 c_1 Q h) hk
    · intro e h hp hk
      clear hp
      obtain ⟨t4, f4, hk⟩ := dI_elim hk
      refine EWP.ret ?_
      have he : upd e 4 (Value.int .i64 t4) = e := by rw [upd_self f4]
      refine (show _ ∧ _ from ⟨rfl, ?_⟩)
      rw [← he]
      exact eqMp (by as_aux_lemma => kernel_rfl : _ = (Q (Value.int .i64 t4) h)) hk
theorem strings_IndexByte_s (s_0 : ByteArray) (c_1 : Int) {Q : Value → Heap → Prop} {h : Heap} (hk : strings_IndexByte_v s_0 c_1 Q h) : CallT Try.prog fn_strings_IndexByte #[Value.string s_0, Value.int .u8 c_1] h Q := by
  obtain ⟨c, hb, he⟩ := strings_IndexByte_e s_0 c_1 Q h hk
  exact callT_of (N := 8) Try.func21 hb rfl (Try.call21 _) (Nat.le_of_ble_eq_true rfl) he
/-! ### (*intrusion/lines.Splitter).append -/
def lines_Splitter_append_b6 (p_0 : Option Addr) (s_1 : ByteArray) (room_4 : Int) (Q : Value → Heap → Prop) (h : Heap) : Prop :=
  nn p_0 fun t40 => ldL h (Addr.add t40 1) fun t42a t42n t42c => sliceStr s_1 none (some (if ((s_1.size : Nat) : Int) < room_4 then ((s_1.size : Nat) : Int) else room_4)) fun t48 => bltV Try.prog .append #[36, 9] 36 #[false, false] #[Value.slice t42a t42n t42c, Value.string t48] h fun v h3 => ∃ t49a : Option Addr, ∃ t49n : Nat, ∃ t49c : Nat, v = Value.slice t49a t49n t49c ∧ nn p_0 fun t50 => st1 h3 (Addr.add t50 1) (Value.slice t49a t49n t49c) fun h4 => Q (Value.tuple #[]) h4
def lines_Splitter_append_b5 (p_0 : Option Addr) (s_1 : ByteArray) (room_4 : Int) (Q : Value → Heap → Prop) (h : Heap) : Prop :=
  if (decide (room_4 > (0 : Int))) = true then (lines_Splitter_append_b6 p_0 s_1 room_4 Q h) else (Q (Value.tuple #[]) h)
def lines_Splitter_append_b4 (p_0 : Option Addr) (s_1 : ByteArray) (Q : Value → Heap → Prop) (h : Heap) : Prop :=
  nn p_0 fun t26 => ldI h t26 .i64 fun t28 => nn p_0 fun t31 => ldL h (Addr.add t31 1) fun t33a t33n t33c => lines_Splitter_append_b5 p_0 s_1 (IntKind.wrap .i64 ((IntKind.wrap .i64 (t28 + (1 : Int))) - ((t33n : Nat) : Int))) Q h
def lines_Splitter_append_b3 (p_0 : Option Addr) (s_1 : ByteArray) (Q : Value → Heap → Prop) (h : Heap) : Prop :=
  idxS s_1 (IntKind.wrap .i64 (((s_1.size : Nat) : Int) - (1 : Int))) fun t21 => nn p_0 fun t23 => st1 h (Addr.add t23 3) (Value.bool (t21 == (13 : Int))) fun h2 => lines_Splitter_append_b4 p_0 s_1 Q h2
def lines_Splitter_append_b2 (p_0 : Option Addr) (s_1 : ByteArray) (Q : Value → Heap → Prop) (h : Heap) : Prop :=
  nn p_0 fun t8 => ldI h (Addr.add t8 2) .i64 fun t10 => nn p_0 fun t14 => st1 h (Addr.add t14 2) (Value.int .i64 (IntKind.wrap .i64 (t10 + ((s_1.size : Nat) : Int)))) fun h1 => lines_Splitter_append_b3 p_0 s_1 Q h1
def lines_Splitter_append_b1 (p_0 : Option Addr) (s_1 : ByteArray) (Q : Value → Heap → Prop) (h : Heap) : Prop :=
  if (s_1.toList == (⟨#[]⟩ : ByteArray).toList) = true then (Q (Value.tuple #[]) h) else (lines_Splitter_append_b2 p_0 s_1 Q h)
def lines_Splitter_append_v (p_0 : Option Addr) (s_1 : ByteArray) (Q : Value → Heap → Prop) (h : Heap) : Prop :=
  lines_Splitter_append_b1 p_0 s_1 Q h
set_option maxRecDepth 100000 in
theorem lines_Splitter_append_e (p_0 : Option Addr) (s_1 : ByteArray) (Q : Value → Heap → Prop) (h : Heap) (hk : lines_Splitter_append_v p_0 s_1 Q h) :
    ∃ c, Try.f22.body = some c ∧ EWP Try.prog 52 c (fnPost Try.prog Try.f22 Q) (env0 #[Value.pointer p_0, Value.string s_1]) [] h := by
  refine ⟨_, rfl, ?_⟩
  have hk : lines_Splitter_append_b1 p_0 s_1 Q h := hk
  have f0 : env0 #[Value.pointer p_0, Value.string s_1] 0 = Value.pointer p_0 := rfl
  have f1 : env0 #[Value.pointer p_0, Value.string s_1] 1 = Value.string s_1 := rfl
  generalize env0 #[Value.pointer p_0, Value.string s_1] = e at *
  refine EWP.seqC (fun e h => e 0 = Value.pointer p_0 ∧ e 1 = Value.string s_1 ∧ lines_Splitter_append_b2 p_0 s_1 Q h) ?_ ?_
  · have he : upd e 1 (Value.string s_1) = e := by rw [upd_self f1]
    refine EWP.seqR (fun e h => dB (e 6) fun t6 => if t6 = true then (Q (Value.tuple #[]) h) else (lines_Splitter_append_b2 p_0 s_1 Q h)) ?_ ?_ ?_
    · kernel_rfl
    · rw [← he]
      exact eqMp (by as_aux_lemma => kernel_rfl : _ = lines_Splitter_append_b1 p_0 s_1 Q h) hk
    · intro e h hp hk
      have f0 := (hp 0 (by kernel_rfl)).trans f0
      have f1 := (hp 1 (by kernel_rfl)).trans f1
      clear hp
      obtain ⟨t6, f6, hk⟩ := dB_elim hk
      have fc : eev e (.tmp 6) = .bool t6 := f6
      refine EWP.condI fc hk ?_ ?_
      · intro hk
        refine EWP.ret ?_
        refine (show _ ∧ _ from ⟨rfl, ?_⟩)
        exact eqMp (by as_aux_lemma => kernel_rfl : _ = (Q (Value.tuple #[]) h)) hk
      · intro hk
        refine EWP.skip ?_
        exact (show _ ∧ _ from ⟨rfl, f0, f1, hk⟩)
  · rintro e h ⟨f0, f1, hk⟩
    have he : upd (upd e 0 (Value.pointer p_0)) 1 (Value.string s_1) = e := by rw [upd_self f0, upd_self f1]
    refine EWP.seqR (fun e h => lines_Splitter_append_b3 p_0 s_1 Q h) ?_ ?_ ?_
    · kernel_rfl
    · rw [← he]
      exact eqMp (by as_aux_lemma => kernel_rfl : _ = lines_Splitter_append_b2 p_0 s_1 Q h) hk
    · intro e h hp hk
      have f0 := (hp 0 (by kernel_rfl)).trans f0
      have f1 := (hp 1 (by kernel_rfl)).trans f1
      clear hp
      have he : upd (upd e 0 (Value.pointer p_0)) 1 (Value.string s_1) = e := by rw [upd_self f0, upd_self f1]
      refine EWP.seqR (fun e h => lines_Splitter_append_b4 p_0 s_1 Q h) ?_ ?_ ?_
      · kernel_rfl
      · rw [← he]
        exact eqMp (by as_aux_lemma => kernel_rfl : _ = lines_Splitter_append_b3 p_0 s_1 Q h) hk
      · intro e h hp hk
        have f0 := (hp 0 (by kernel_rfl)).trans f0
        have f1 := (hp 1 (by kernel_rfl)).trans f1
        clear hp
        have he : upd e 0 (Value.pointer p_0) = e := by rw [upd_self f0]
        refine EWP.seqD (fun e h => dI .i64 (e 4) fun room_4 => lines_Splitter_append_b5 p_0 s_1 room_4 Q h) ?_ ?_ ?_ ?_
        · kernel_rfl
        · kernel_rfl
        · rw [← he]
          exact eqMp (by as_aux_lemma => kernel_rfl : _ = lines_Splitter_append_b4 p_0 s_1 Q h) hk
        · intro e h hp hk
          have f0 := (hp 0 (by kernel_rfl)).trans f0
          have f1 := (hp 1 (by kernel_rfl)).trans f1
          clear hp
          obtain ⟨room_4, f4, hk⟩ := dI_elim hk
          have he : upd e 4 (Value.int .i64 room_4) = e := by rw [upd_self f4]
          refine EWP.seqR (fun e h => dB (e 37) fun t37 => if t37 = true then (lines_Splitter_append_b6 p_0 s_1 room_4 Q h) else (Q (Value.tuple #[]) h)) ?_ ?_ ?_
          · kernel_rfl
          · rw [← he]
            exact eqMp (by as_aux_lemma => kernel_rfl : _ = lines_Splitter_append_b5 p_0 s_1 room_4 Q h) hk
          · intro e h hp hk
            have f0 := (hp 0 (by kernel_rfl)).trans f0
            have f1 := (hp 1 (by kernel_rfl)).trans f1
            have f4 := (hp 4 (by kernel_rfl)).trans f4
            clear hp
            obtain ⟨t37, f37, hk⟩ := dB_elim hk
            have fc : eev e (.tmp 37) = .bool t37 := f37
            refine EWP.condI fc hk ?_ ?_
            · intro hk
              have he : upd (upd (upd e 0 (Value.pointer p_0)) 1 (Value.string s_1)) 4 (Value.int .i64 room_4) = e := by rw [upd_self f0, upd_self f1, upd_self f4]
              refine EWP.drawN (fun e h => Q (Value.tuple #[]) h) ?_ ?_ ?_ ?_
              · kernel_rfl
              · kernel_rfl
              · rw [← he]
                exact eqMp (by as_aux_lemma => kernel_rfl : _ = lines_Splitter_append_b6 p_0 s_1 room_4 Q h) hk
              · intro e h hp hk
                clear hp
                refine (show _ ∧ _ from ⟨rfl, ?_⟩)
                exact eqMp (by as_aux_lemma => kernel_rfl : _ = (Q (Value.tuple #[]) h)) hk
            · intro hk
              refine EWP.skip ?_
              refine (show _ ∧ _ from ⟨rfl, ?_⟩)
              exact eqMp (by as_aux_lemma => kernel_rfl : _ = (Q (Value.tuple #[]) h)) hk
theorem lines_Splitter_append_s (p_0 : Option Addr) (s_1 : ByteArray) {Q : Value → Heap → Prop} {h : Heap} (hk : lines_Splitter_append_v p_0 s_1 Q h) : CallT Try.prog fn_lines_Splitter_append #[Value.pointer p_0, Value.string s_1] h Q := by
  obtain ⟨c, hb, he⟩ := lines_Splitter_append_e p_0 s_1 Q h hk
  exact callT_of (N := 52) Try.func22 hb rfl (Try.call22 _) (Nat.le_of_ble_eq_true rfl) he
theorem lines_Splitter_append_d (p_0 : Option Addr) (s_1 : ByteArray) {K : Heap → Prop} {h : Heap} (hk : lines_Splitter_append_v p_0 s_1 (fun _ h => K h) h) : CallDT Try.prog fn_lines_Splitter_append #[Value.pointer p_0, Value.string s_1] h K := by
  obtain ⟨c, hb, he⟩ := lines_Splitter_append_e p_0 s_1 _ h hk
  exact callDT_of (N := 52) Try.func22 hb rfl (Try.call22 _) (Nat.le_of_ble_eq_true rfl) he
/-! ### (*intrusion/lines.Splitter).line -/
def lines_Splitter_line_b3 (p_0 : Option Addr) (n_1 : Int) (t4 : Addr) (Q : Value → Heap → Prop) (h : Heap) : Prop :=
  nn p_0 fun t9 => ldI h t9 .i64 fun t11 => nn p_0 fun t15 => ldI h t15 .i64 fun t17 => CallT Try.prog fn_lines_Splitter_first #[Value.pointer p_0, Value.int .i64 n_1, Value.int .i64 t11] h fun v h2 => ∃ t12 : ByteArray, v = Value.string t12 ∧ (ldI h2 t15 .i64 fun t917 => Value.int .i64 t917 = Value.int .i64 t17) ∧ stN h2 t4 [Value.string (⟨#[]⟩ : ByteArray), Value.bool false] 0 fun h3 => (ldI h3 t15 .i64 fun t917 => Value.int .i64 t917 = Value.int .i64 t17) ∧ st1 h3 t4 (Value.string t12) fun h4 => (ldI h4 t15 .i64 fun t917 => Value.int .i64 t917 = Value.int .i64 t17) ∧ st1 h4 (Addr.add t4 1) (Value.bool (decide (n_1 > t17))) fun h5 => CallDT Try.prog fn_lines_Splitter_forget #[Value.pointer p_0] h5 fun h6 => ldS h6 t4 fun r0_0 => ldB h6 (Addr.add t4 1) fun r0_1 => Q (Value.agg #[Value.string r0_0, Value.bool r0_1]) h6
def lines_Splitter_line_b2 (p_0 : Option Addr) (n_1 : Int) (t4 : Addr) (Q : Value → Heap → Prop) (h : Heap) : Prop :=
  lines_Splitter_line_b3 p_0 n_1 t4 Q h
def lines_Splitter_line_b1 (p_0 : Option Addr) (n_1 : Int) (Q : Value → Heap → Prop) (h : Heap) : Prop :=
  alV h (.cells #[Value.string (⟨#[]⟩ : ByteArray), Value.bool false] 38) fun t4 h1 => lines_Splitter_line_b2 p_0 n_1 t4 Q h1
def lines_Splitter_line_v (p_0 : Option Addr) (n_1 : Int) (Q : Value → Heap → Prop) (h : Heap) : Prop :=
  lines_Splitter_line_b1 p_0 n_1 Q h
set_option maxRecDepth 100000 in
theorem lines_Splitter_line_e (p_0 : Option Addr) (n_1 : Int) (Q : Value → Heap → Prop) (h : Heap) (hk : lines_Splitter_line_v p_0 n_1 Q h) :
    ∃ c, Try.f23.body = some c ∧ EWP Try.prog 21 c (fnPostD Try.prog Try.f23 Q) (env0 #[Value.pointer p_0, Value.int .i64 n_1]) [] h := by
  refine ⟨_, rfl, ?_⟩
  have hk : lines_Splitter_line_b1 p_0 n_1 Q h := hk
  have f0 : env0 #[Value.pointer p_0, Value.int .i64 n_1] 0 = Value.pointer p_0 := rfl
  have f1 : env0 #[Value.pointer p_0, Value.int .i64 n_1] 1 = Value.int .i64 n_1 := rfl
  generalize env0 #[Value.pointer p_0, Value.int .i64 n_1] = e at *
  refine EWP.seqR (fun e h => dA (e 4) fun t4 => lines_Splitter_line_b2 p_0 n_1 t4 Q h) ?_ ?_ ?_
  · kernel_rfl
  · skip
    exact eqMp (by as_aux_lemma => kernel_rfl : _ = lines_Splitter_line_b1 p_0 n_1 Q h) hk
  · intro e h hp hk
    have f0 := (hp 0 (by kernel_rfl)).trans f0
    have f1 := (hp 1 (by kernel_rfl)).trans f1
    clear hp
    obtain ⟨t4, f4, hk⟩ := dA_elim hk
    have he : upd (upd (upd e 0 (Value.pointer p_0)) 1 (Value.int .i64 n_1)) 4 (Value.pointer (some t4)) = e := by rw [upd_self f0, upd_self f1, upd_self f4]
    refine EWP.seq (fun e ds h => ds = [({ target := .fn (.func 27) #[], args := #[Value.pointer p_0] } : Deferred)] ∧ e 0 = Value.pointer p_0 ∧ e 1 = Value.int .i64 n_1 ∧ e 4 = Value.pointer (some t4) ∧ lines_Splitter_line_b3 p_0 n_1 t4 Q h) (EWP.region ?_) ?_
    · rw [← he]
      exact eqMp (by as_aux_lemma => kernel_rfl : _ = ([({ target := .fn (.func 27) #[], args := #[Value.pointer p_0] } : Deferred)] = [({ target := .fn (.func 27) #[], args := #[Value.pointer p_0] } : Deferred)] ∧ Value.pointer p_0 = Value.pointer p_0 ∧ Value.int .i64 n_1 = Value.int .i64 n_1 ∧ Value.pointer (some t4) = Value.pointer (some t4) ∧ lines_Splitter_line_b2 p_0 n_1 t4 Q h)) ⟨rfl, rfl, rfl, rfl, hk⟩
    · rintro e ds h ⟨rfl, f0, f1, f4, hk⟩
      have he : upd (upd (upd e 0 (Value.pointer p_0)) 1 (Value.int .i64 n_1)) 4 (Value.pointer (some t4)) = e := by rw [upd_self f0, upd_self f1, upd_self f4]
      refine EWP.seqD (fun e h => CallDT Try.prog fn_lines_Splitter_forget #[Value.pointer p_0] h fun h12 => ldS h12 t4 fun r0_0 => ldB h12 (Addr.add t4 1) fun r0_1 => Q (Value.agg #[Value.string r0_0, Value.bool r0_1]) h12) ?_ ?_ ?_ ?_
      · kernel_rfl
      · kernel_rfl
      · rw [← he]
        exact eqMp (by as_aux_lemma => kernel_rfl : _ = lines_Splitter_line_b3 p_0 n_1 t4 Q h) hk
      · intro e h hp hk
        have f4 := (hp 4 (by kernel_rfl)).trans f4
        clear hp
        refine EWP.ret ?_
        have he : upd e 4 (Value.pointer (some t4)) = e := by rw [upd_self f4]
        show leavesT _ _ _ _ _ _
        rw [← he]
        exact eqMp (by as_aux_lemma => kernel_rfl : _ = (CallDT Try.prog fn_lines_Splitter_forget #[Value.pointer p_0] h fun h13 => ldS h13 t4 fun r0_0 => ldB h13 (Addr.add t4 1) fun r0_1 => Q (Value.agg #[Value.string r0_0, Value.bool r0_1]) h13)) hk
theorem lines_Splitter_line_s (p_0 : Option Addr) (n_1 : Int) {Q : Value → Heap → Prop} {h : Heap} (hk : lines_Splitter_line_v p_0 n_1 Q h) : CallT Try.prog fn_lines_Splitter_line #[Value.pointer p_0, Value.int .i64 n_1] h Q := by
  obtain ⟨c, hb, he⟩ := lines_Splitter_line_e p_0 n_1 Q h hk
  exact callT_ofD (N := 21) Try.func23 hb rfl (Try.call23 _) (Nat.le_of_ble_eq_true rfl) he
/-! ### (*intrusion/lines.Splitter).length -/
def lines_Splitter_length_b3 (p_0 : Option Addr) (Q : Value → Heap → Prop) (h : Heap) : Prop :=
  nn p_0 fun t8 => ldI h (Addr.add t8 2) .i64 fun t10 => Q (Value.int .i64 (IntKind.wrap .i64 (t10 - (1 : Int)))) h
def lines_Splitter_length_b4 (p_0 : Option Addr) (Q : Value → Heap → Prop) (h : Heap) : Prop :=
  nn p_0 fun t13 => ldI h (Addr.add t13 2) .i64 fun t15 => Q (Value.int .i64 t15) h
def lines_Splitter_length_b2 (p_0 : Option Addr) (Q : Value → Heap → Prop) (h : Heap) : Prop :=
  nn p_0 fun t4 => ldB h (Addr.add t4 3) fun t6 => if t6 = true then (lines_Splitter_length_b3 p_0 Q h) else (lines_Splitter_length_b4 p_0 Q h)
def lines_Splitter_length_b1 (p_0 : Option Addr) (Q : Value → Heap → Prop) (h : Heap) : Prop :=
  lines_Splitter_length_b2 p_0 Q h
def lines_Splitter_length_v (p_0 : Option Addr) (Q : Value → Heap → Prop) (h : Heap) : Prop :=
  lines_Splitter_length_b1 p_0 Q h
set_option maxRecDepth 100000 in
theorem lines_Splitter_length_e (p_0 : Option Addr) (Q : Value → Heap → Prop) (h : Heap) (hk : lines_Splitter_length_v p_0 Q h) :
    ∃ c, Try.f24.body = some c ∧ EWP Try.prog 16 c (fnPost Try.prog Try.f24 Q) (env0 #[Value.pointer p_0]) [] h := by
  refine ⟨_, rfl, ?_⟩
  have hk : lines_Splitter_length_b1 p_0 Q h := hk
  have f0 : env0 #[Value.pointer p_0] 0 = Value.pointer p_0 := rfl
  generalize env0 #[Value.pointer p_0] = e at *
  refine EWP.seqR (fun e h => lines_Splitter_length_b2 p_0 Q h) ?_ ?_ ?_
  · kernel_rfl
  · skip
    exact eqMp (by as_aux_lemma => kernel_rfl : _ = lines_Splitter_length_b1 p_0 Q h) hk
  · intro e h hp hk
    have f0 := (hp 0 (by kernel_rfl)).trans f0
    clear hp
    refine EWP.seqC (fun e h => e 0 = Value.pointer p_0 ∧ lines_Splitter_length_b4 p_0 Q h) ?_ ?_
    · have he : upd e 0 (Value.pointer p_0) = e := by rw [upd_self f0]
      refine EWP.seqR (fun e h => dB (e 6) fun t6 => if t6 = true then (lines_Splitter_length_b3 p_0 Q h) else (lines_Splitter_length_b4 p_0 Q h)) ?_ ?_ ?_
      · kernel_rfl
      · rw [← he]
        exact eqMp (by as_aux_lemma => kernel_rfl : _ = lines_Splitter_length_b2 p_0 Q h) hk
      · intro e h hp hk
        have f0 := (hp 0 (by kernel_rfl)).trans f0
        clear hp
        obtain ⟨t6, f6, hk⟩ := dB_elim hk
        have fc : eev e (.tmp 6) = .bool t6 := f6
        refine EWP.condI fc hk ?_ ?_
        · intro hk
          have he : upd e 0 (Value.pointer p_0) = e := by rw [upd_self f0]
          refine EWP.seqR (fun e h => dI .i64 (e 2) fun t2 => Q (Value.int .i64 t2) h) ?_ ?_ ?_
          · kernel_rfl
          · rw [← he]
            exact eqMp (by as_aux_lemma => kernel_rfl : _ = lines_Splitter_length_b3 p_0 Q h) hk
          · intro e h hp hk
            clear hp
            obtain ⟨t2, f2, hk⟩ := dI_elim hk
            refine EWP.ret ?_
            have he : upd e 2 (Value.int .i64 t2) = e := by rw [upd_self f2]
            refine (show _ ∧ _ from ⟨rfl, ?_⟩)
            rw [← he]
            exact eqMp (by as_aux_lemma => kernel_rfl : _ = (Q (Value.int .i64 t2) h)) hk
        · intro hk
          refine EWP.skip ?_
          exact (show _ ∧ _ from ⟨rfl, f0, hk⟩)
    · rintro e h ⟨f0, hk⟩
      have he : upd e 0 (Value.pointer p_0) = e := by rw [upd_self f0]
      refine EWP.seqR (fun e h => dI .i64 (e 2) fun t2 => Q (Value.int .i64 t2) h) ?_ ?_ ?_
      · kernel_rfl
      · rw [← he]
        exact eqMp (by as_aux_lemma => kernel_rfl : _ = lines_Splitter_length_b4 p_0 Q h) hk
      · intro e h hp hk
        clear hp
        obtain ⟨t2, f2, hk⟩ := dI_elim hk
        refine EWP.ret ?_
        have he : upd e 2 (Value.int .i64 t2) = e := by rw [upd_self f2]
        refine (show _ ∧ _ from ⟨rfl, ?_⟩)
        rw [← he]
        exact eqMp (by as_aux_lemma => kernel_rfl : _ = (Q (Value.int .i64 t2) h)) hk
theorem lines_Splitter_length_s (p_0 : Option Addr) {Q : Value → Heap → Prop} {h : Heap} (hk : lines_Splitter_length_v p_0 Q h) : CallT Try.prog fn_lines_Splitter_length #[Value.pointer p_0] h Q := by
  obtain ⟨c, hb, he⟩ := lines_Splitter_length_e p_0 Q h hk
  exact callT_of (N := 16) Try.func24 hb rfl (Try.call24 _) (Nat.le_of_ble_eq_true rfl) he
/-! ### (*intrusion/intrusionref25.Splitter).line -/
def ref25_Splitter_line_b3 (p_0 : Option Addr) (s_1 : ByteArray) (t4 : Addr) (Q : Value → Heap → Prop) (h : Heap) : Prop :=
  nn p_0 fun t14 => ldI h t14 .i64 fun t16 => sliceStr s_1 none (some t16) fun t17 => stN h t4 [Value.string t17, Value.bool true] 0 fun h2 => ldS h2 t4 fun r0_0 => ldB h2 (Addr.add t4 1) fun r0_1 => Q (Value.agg #[Value.string r0_0, Value.bool r0_1]) h2
def ref25_Splitter_line_b4 (s_1 : ByteArray) (t4 : Addr) (Q : Value → Heap → Prop) (h : Heap) : Prop :=
  stN h t4 [Value.string s_1, Value.bool false] 0 fun h3 => ldS h3 t4 fun r0_0 => ldB h3 (Addr.add t4 1) fun r0_1 => Q (Value.agg #[Value.string r0_0, Value.bool r0_1]) h3
def ref25_Splitter_line_b2 (p_0 : Option Addr) (s_1 : ByteArray) (t4 : Addr) (Q : Value → Heap → Prop) (h : Heap) : Prop :=
  nn p_0 fun t8 => ldI h t8 .i64 fun t10 => if (decide (((s_1.size : Nat) : Int) > t10)) = true then (ref25_Splitter_line_b3 p_0 s_1 t4 Q h) else (ref25_Splitter_line_b4 s_1 t4 Q h)
def ref25_Splitter_line_b1 (p_0 : Option Addr) (s_1 : ByteArray) (Q : Value → Heap → Prop) (h : Heap) : Prop :=
  alV h (.cells #[Value.string (⟨#[]⟩ : ByteArray), Value.bool false] 38) fun t4 h1 => ref25_Splitter_line_b2 p_0 s_1 t4 Q h1
def ref25_Splitter_line_v (p_0 : Option Addr) (s_1 : ByteArray) (Q : Value → Heap → Prop) (h : Heap) : Prop :=
  ref25_Splitter_line_b1 p_0 s_1 Q h
set_option maxRecDepth 100000 in
theorem ref25_Splitter_line_e (p_0 : Option Addr) (s_1 : ByteArray) (Q : Value → Heap → Prop) (h : Heap) (hk : ref25_Splitter_line_v p_0 s_1 Q h) :
    ∃ c, Try.f25.body = some c ∧ EWP Try.prog 21 c (fnPost Try.prog Try.f25 Q) (env0 #[Value.pointer p_0, Value.string s_1]) [] h := by
  refine ⟨_, rfl, ?_⟩
  have hk : ref25_Splitter_line_b1 p_0 s_1 Q h := hk
  have f0 : env0 #[Value.pointer p_0, Value.string s_1] 0 = Value.pointer p_0 := rfl
  have f1 : env0 #[Value.pointer p_0, Value.string s_1] 1 = Value.string s_1 := rfl
  generalize env0 #[Value.pointer p_0, Value.string s_1] = e at *
  refine EWP.seqR (fun e h => dA (e 4) fun t4 => ref25_Splitter_line_b2 p_0 s_1 t4 Q h) ?_ ?_ ?_
  · kernel_rfl
  · skip
    exact eqMp (by as_aux_lemma => kernel_rfl : _ = ref25_Splitter_line_b1 p_0 s_1 Q h) hk
  · intro e h hp hk
    have f0 := (hp 0 (by kernel_rfl)).trans f0
    have f1 := (hp 1 (by kernel_rfl)).trans f1
    clear hp
    obtain ⟨t4, f4, hk⟩ := dA_elim hk
    refine EWP.seqC (fun e h => e 1 = Value.string s_1 ∧ e 4 = Value.pointer (some t4) ∧ ref25_Splitter_line_b4 s_1 t4 Q h) ?_ ?_
    · have he : upd (upd e 0 (Value.pointer p_0)) 1 (Value.string s_1) = e := by rw [upd_self f0, upd_self f1]
      refine EWP.seqR (fun e h => dB (e 11) fun t11 => if t11 = true then (ref25_Splitter_line_b3 p_0 s_1 t4 Q h) else (ref25_Splitter_line_b4 s_1 t4 Q h)) ?_ ?_ ?_
      · kernel_rfl
      · rw [← he]
        exact eqMp (by as_aux_lemma => kernel_rfl : _ = ref25_Splitter_line_b2 p_0 s_1 t4 Q h) hk
      · intro e h hp hk
        have f0 := (hp 0 (by kernel_rfl)).trans f0
        have f1 := (hp 1 (by kernel_rfl)).trans f1
        have f4 := (hp 4 (by kernel_rfl)).trans f4
        clear hp
        obtain ⟨t11, f11, hk⟩ := dB_elim hk
        have fc : eev e (.tmp 11) = .bool t11 := f11
        refine EWP.condI fc hk ?_ ?_
        · intro hk
          have he : upd (upd (upd e 0 (Value.pointer p_0)) 1 (Value.string s_1)) 4 (Value.pointer (some t4)) = e := by rw [upd_self f0, upd_self f1, upd_self f4]
          refine EWP.seqR (fun e h => ldS h t4 fun r0_0 => ldB h (Addr.add t4 1) fun r0_1 => Q (Value.agg #[Value.string r0_0, Value.bool r0_1]) h) ?_ ?_ ?_
          · kernel_rfl
          · rw [← he]
            exact eqMp (by as_aux_lemma => kernel_rfl : _ = ref25_Splitter_line_b3 p_0 s_1 t4 Q h) hk
          · intro e h hp hk
            have f4 := (hp 4 (by kernel_rfl)).trans f4
            clear hp
            refine EWP.ret ?_
            have he : upd e 4 (Value.pointer (some t4)) = e := by rw [upd_self f4]
            refine (show _ ∧ _ from ⟨rfl, ?_⟩)
            rw [← he]
            exact eqMp (by as_aux_lemma => kernel_rfl : _ = (ldS h t4 fun r0_0 => ldB h (Addr.add t4 1) fun r0_1 => Q (Value.agg #[Value.string r0_0, Value.bool r0_1]) h)) hk
        · intro hk
          refine EWP.skip ?_
          exact (show _ ∧ _ from ⟨rfl, f1, f4, hk⟩)
    · rintro e h ⟨f1, f4, hk⟩
      have he : upd (upd e 1 (Value.string s_1)) 4 (Value.pointer (some t4)) = e := by rw [upd_self f1, upd_self f4]
      refine EWP.seqR (fun e h => ldS h t4 fun r0_0 => ldB h (Addr.add t4 1) fun r0_1 => Q (Value.agg #[Value.string r0_0, Value.bool r0_1]) h) ?_ ?_ ?_
      · kernel_rfl
      · rw [← he]
        exact eqMp (by as_aux_lemma => kernel_rfl : _ = ref25_Splitter_line_b4 s_1 t4 Q h) hk
      · intro e h hp hk
        have f4 := (hp 4 (by kernel_rfl)).trans f4
        clear hp
        refine EWP.ret ?_
        have he : upd e 4 (Value.pointer (some t4)) = e := by rw [upd_self f4]
        refine (show _ ∧ _ from ⟨rfl, ?_⟩)
        rw [← he]
        exact eqMp (by as_aux_lemma => kernel_rfl : _ = (ldS h t4 fun r0_0 => ldB h (Addr.add t4 1) fun r0_1 => Q (Value.agg #[Value.string r0_0, Value.bool r0_1]) h)) hk
theorem ref25_Splitter_line_s (p_0 : Option Addr) (s_1 : ByteArray) {Q : Value → Heap → Prop} {h : Heap} (hk : ref25_Splitter_line_v p_0 s_1 Q h) : CallT Try.prog fn_ref25_Splitter_line #[Value.pointer p_0, Value.string s_1] h Q := by
  obtain ⟨c, hb, he⟩ := ref25_Splitter_line_e p_0 s_1 Q h hk
  exact callT_of (N := 21) Try.func25 hb rfl (Try.call25 _) (Nat.le_of_ble_eq_true rfl) he
/-! ### intrusion/intrusionref25.bare -/
def ref25_bare_b3 (s_0 : ByteArray) (Q : Value → Heap → Prop) (h : Heap) : Prop :=
  sliceStr s_0 none (some (IntKind.wrap .i64 (((s_0.size : Nat) : Int) - (1 : Int)))) fun t17 => Q (Value.string t17) h
def ref25_bare_b4 (s_0 : ByteArray) (Q : Value → Heap → Prop) (h : Heap) : Prop :=
  Q (Value.string s_0) h
def ref25_bare_b2 (s_0 : ByteArray) (Q : Value → Heap → Prop) (h : Heap) : Prop :=
  if (!(s_0.toList == (⟨#[]⟩ : ByteArray).toList)) = true then (idxS s_0 (IntKind.wrap .i64 (((s_0.size : Nat) : Int) - (1 : Int))) fun t10 => if (t10 == (13 : Int)) = true then (ref25_bare_b3 s_0 Q h) else (ref25_bare_b4 s_0 Q h)) else (ref25_bare_b4 s_0 Q h)
def ref25_bare_b1 (s_0 : ByteArray) (Q : Value → Heap → Prop) (h : Heap) : Prop :=
  ref25_bare_b2 s_0 Q h
def ref25_bare_v (s_0 : ByteArray) (Q : Value → Heap → Prop) (h : Heap) : Prop :=
  ref25_bare_b1 s_0 Q h
set_option maxRecDepth 100000 in
theorem ref25_bare_e (s_0 : ByteArray) (Q : Value → Heap → Prop) (h : Heap) (hk : ref25_bare_v s_0 Q h) :
    ∃ c, Try.f26.body = some c ∧ EWP Try.prog 19 c (fnPost Try.prog Try.f26 Q) (env0 #[Value.string s_0]) [] h := by
  refine ⟨_, rfl, ?_⟩
  have hk : ref25_bare_b1 s_0 Q h := hk
  have f0 : env0 #[Value.string s_0] 0 = Value.string s_0 := rfl
  generalize env0 #[Value.string s_0] = e at *
  refine EWP.seqR (fun e h => ref25_bare_b2 s_0 Q h) ?_ ?_ ?_
  · kernel_rfl
  · skip
    exact eqMp (by as_aux_lemma => kernel_rfl : _ = ref25_bare_b1 s_0 Q h) hk
  · intro e h hp hk
    have f0 := (hp 0 (by kernel_rfl)).trans f0
    clear hp
    refine EWP.seqC (fun e h => e 0 = Value.string s_0 ∧ ref25_bare_b4 s_0 Q h) ?_ ?_
    · have he : upd e 0 (Value.string s_0) = e := by rw [upd_self f0]
      refine EWP.seqR (fun e h => dB (e 12) fun t12 => if t12 = true then (ref25_bare_b3 s_0 Q h) else (ref25_bare_b4 s_0 Q h)) ?_ ?_ ?_
      · kernel_rfl
      · rw [← he]
        exact eqMp (by as_aux_lemma => kernel_rfl : _ = ref25_bare_b2 s_0 Q h) hk
      · intro e h hp hk
        have f0 := (hp 0 (by kernel_rfl)).trans f0
        clear hp
        obtain ⟨t12, f12, hk⟩ := dB_elim hk
        have fc : eev e (.tmp 12) = .bool t12 := f12
        refine EWP.condI fc hk ?_ ?_
        · intro hk
          have he : upd e 0 (Value.string s_0) = e := by rw [upd_self f0]
          refine EWP.seqR (fun e h => dS (e 2) fun t2 => Q (Value.string t2) h) ?_ ?_ ?_
          · kernel_rfl
          · rw [← he]
            exact eqMp (by as_aux_lemma => kernel_rfl : _ = ref25_bare_b3 s_0 Q h) hk
          · intro e h hp hk
            clear hp
            obtain ⟨t2, f2, hk⟩ := dS_elim hk
            refine EWP.ret ?_
            have he : upd e 2 (Value.string t2) = e := by rw [upd_self f2]
            refine (show _ ∧ _ from ⟨rfl, ?_⟩)
            rw [← he]
            exact eqMp (by as_aux_lemma => kernel_rfl : _ = (Q (Value.string t2) h)) hk
        · intro hk
          refine EWP.skip ?_
          exact (show _ ∧ _ from ⟨rfl, f0, hk⟩)
    · rintro e h ⟨f0, hk⟩
      have he : upd e 0 (Value.string s_0) = e := by rw [upd_self f0]
      refine EWP.seqR (fun e h => dS (e 2) fun t2 => Q (Value.string t2) h) ?_ ?_ ?_
      · kernel_rfl
      · rw [← he]
        exact eqMp (by as_aux_lemma => kernel_rfl : _ = ref25_bare_b4 s_0 Q h) hk
      · intro e h hp hk
        clear hp
        obtain ⟨t2, f2, hk⟩ := dS_elim hk
        refine EWP.ret ?_
        have he : upd e 2 (Value.string t2) = e := by rw [upd_self f2]
        refine (show _ ∧ _ from ⟨rfl, ?_⟩)
        rw [← he]
        exact eqMp (by as_aux_lemma => kernel_rfl : _ = (Q (Value.string t2) h)) hk
theorem ref25_bare_s (s_0 : ByteArray) {Q : Value → Heap → Prop} {h : Heap} (hk : ref25_bare_v s_0 Q h) : CallT Try.prog fn_ref25_bare #[Value.string s_0] h Q := by
  obtain ⟨c, hb, he⟩ := ref25_bare_e s_0 Q h hk
  exact callT_of (N := 19) Try.func26 hb rfl (Try.call26 _) (Nat.le_of_ble_eq_true rfl) he
/-! ### (*intrusion/lines.Splitter).forget -/
def lines_Splitter_forget_b1 (p_0 : Option Addr) (Q : Value → Heap → Prop) (h : Heap) : Prop :=
  nn p_0 fun t6 => ldL h (Addr.add t6 1) fun t8a t8n t8c => sliceSl 1 t8a t8n t8c none (some (0 : Int)) none fun t9a t9n t9c => nn p_0 fun t10 => st1 h (Addr.add t10 1) (Value.slice t9a t9n t9c) fun h1 => nn p_0 fun t12 => st1 h1 (Addr.add t12 2) (Value.int .i64 (0 : Int)) fun h2 => nn p_0 fun t14 => st1 h2 (Addr.add t14 3) (Value.bool false) fun h3 => Q (Value.tuple #[]) h3
def lines_Splitter_forget_v (p_0 : Option Addr) (Q : Value → Heap → Prop) (h : Heap) : Prop :=
  lines_Splitter_forget_b1 p_0 Q h
set_option maxRecDepth 100000 in
theorem lines_Splitter_forget_e (p_0 : Option Addr) (Q : Value → Heap → Prop) (h : Heap) (hk : lines_Splitter_forget_v p_0 Q h) :
    ∃ c, Try.f27.body = some c ∧ EWP Try.prog 16 c (fnPost Try.prog Try.f27 Q) (env0 #[Value.pointer p_0]) [] h := by
  refine ⟨_, rfl, ?_⟩
  have hk : lines_Splitter_forget_b1 p_0 Q h := hk
  have f0 : env0 #[Value.pointer p_0] 0 = Value.pointer p_0 := rfl
  generalize env0 #[Value.pointer p_0] = e at *
  have he : upd e 0 (Value.pointer p_0) = e := by rw [upd_self f0]
  refine EWP.regionN (fun e h => Q (Value.tuple #[]) h) ?_ ?_ ?_
  · kernel_rfl
  · rw [← he]
    exact eqMp (by as_aux_lemma => kernel_rfl : _ = lines_Splitter_forget_b1 p_0 Q h) hk
  · intro e h hp hk
    clear hp
    refine (show _ ∧ _ from ⟨rfl, ?_⟩)
    exact eqMp (by as_aux_lemma => kernel_rfl : _ = (Q (Value.tuple #[]) h)) hk
theorem lines_Splitter_forget_s (p_0 : Option Addr) {Q : Value → Heap → Prop} {h : Heap} (hk : lines_Splitter_forget_v p_0 Q h) : CallT Try.prog fn_lines_Splitter_forget #[Value.pointer p_0] h Q := by
  obtain ⟨c, hb, he⟩ := lines_Splitter_forget_e p_0 Q h hk
  exact callT_of (N := 16) Try.func27 hb rfl (Try.call27 _) (Nat.le_of_ble_eq_true rfl) he
theorem lines_Splitter_forget_d (p_0 : Option Addr) {K : Heap → Prop} {h : Heap} (hk : lines_Splitter_forget_v p_0 (fun _ h => K h) h) : CallDT Try.prog fn_lines_Splitter_forget #[Value.pointer p_0] h K := by
  obtain ⟨c, hb, he⟩ := lines_Splitter_forget_e p_0 _ h hk
  exact callDT_of (N := 16) Try.func27 hb rfl (Try.call27 _) (Nat.le_of_ble_eq_true rfl) he
/-! ### (*intrusion/lines.Splitter).first -/
def lines_Splitter_first_b3 (p_0 : Option Addr) (n_1 : Int) (Q : Value → Heap → Prop) (h : Heap) : Prop :=
  nn p_0 fun t16 => ldL h (Addr.add t16 1) fun t18a t18n t18c => sliceSl 1 t18a t18n t18c none (some n_1) (some n_1) fun t21a t21n t21c => convV Try.prog 36 9 (Value.slice t21a t21n t21c) h fun v h1 => ∃ t22 : ByteArray, v = Value.string t22 ∧ Q (Value.string t22) h1
def lines_Splitter_first_b2 (p_0 : Option Addr) (n_1 : Int) (most_2 : Int) (Q : Value → Heap → Prop) (h : Heap) : Prop :=
  nn p_0 fun t10 => ldL h (Addr.add t10 1) fun t12a t12n t12c => lines_Splitter_first_b3 p_0 (if ((t12n : Nat) : Int) < (if most_2 < n_1 then most_2 else n_1) then ((t12n : Nat) : Int) else (if most_2 < n_1 then most_2 else n_1)) Q h
def lines_Splitter_first_b1 (p_0 : Option Addr) (n_1 : Int) (most_2 : Int) (Q : Value → Heap → Prop) (h : Heap) : Prop :=
  lines_Splitter_first_b2 p_0 n_1 most_2 Q h
def lines_Splitter_first_v (p_0 : Option Addr) (n_1 : Int) (most_2 : Int) (Q : Value → Heap → Prop) (h : Heap) : Prop :=
  lines_Splitter_first_b1 p_0 n_1 most_2 Q h
set_option maxRecDepth 100000 in
theorem lines_Splitter_first_e (p_0 : Option Addr) (n_1 : Int) (most_2 : Int) (Q : Value → Heap → Prop) (h : Heap) (hk : lines_Splitter_first_v p_0 n_1 most_2 Q h) :
    ∃ c, Try.f28.body = some c ∧ EWP Try.prog 23 c (fnPost Try.prog Try.f28 Q) (env0 #[Value.pointer p_0, Value.int .i64 n_1, Value.int .i64 most_2]) [] h := by
  refine ⟨_, rfl, ?_⟩
  have hk : lines_Splitter_first_b1 p_0 n_1 most_2 Q h := hk
  have f0 : env0 #[Value.pointer p_0, Value.int .i64 n_1, Value.int .i64 most_2] 0 = Value.pointer p_0 := rfl
  have f1 : env0 #[Value.pointer p_0, Value.int .i64 n_1, Value.int .i64 most_2] 1 = Value.int .i64 n_1 := rfl
  have f2 : env0 #[Value.pointer p_0, Value.int .i64 n_1, Value.int .i64 most_2] 2 = Value.int .i64 most_2 := rfl
  generalize env0 #[Value.pointer p_0, Value.int .i64 n_1, Value.int .i64 most_2] = e at *
  refine EWP.seqR (fun e h => lines_Splitter_first_b2 p_0 n_1 most_2 Q h) ?_ ?_ ?_
  · kernel_rfl
  · skip
    exact eqMp (by as_aux_lemma => kernel_rfl : _ = lines_Splitter_first_b1 p_0 n_1 most_2 Q h) hk
  · intro e h hp hk
    have f0 := (hp 0 (by kernel_rfl)).trans f0
    have f1 := (hp 1 (by kernel_rfl)).trans f1
    have f2 := (hp 2 (by kernel_rfl)).trans f2
    clear hp
    have he : upd (upd (upd e 0 (Value.pointer p_0)) 1 (Value.int .i64 n_1)) 2 (Value.int .i64 most_2) = e := by rw [upd_self f0, upd_self f1, upd_self f2]
    refine EWP.seqR (fun e h => dI .i64 (e 1) fun n_1 => lines_Splitter_first_b3 p_0 n_1 Q h) ?_ ?_ ?_
    · kernel_rfl
    · rw [← he]
      exact eqMp (by as_aux_lemma => kernel_rfl : _ = lines_Splitter_first_b2 p_0 n_1 most_2 Q h) hk
    · intro e h hp hk
      have f0 := (hp 0 (by kernel_rfl)).trans f0
      clear hp
      obtain ⟨n_1, f1, hk⟩ := dI_elim hk
      have he : upd (upd e 0 (Value.pointer p_0)) 1 (Value.int .i64 n_1) = e := by rw [upd_self f0, upd_self f1]
      refine EWP.seqR (fun e h => dS (e 6) fun t6 => Q (Value.string t6) h) ?_ ?_ ?_
      · kernel_rfl
      · rw [← he]
        exact eqMp (by as_aux_lemma => kernel_rfl : _ = lines_Splitter_first_b3 p_0 n_1 Q h) hk
      · intro e h hp hk
        clear hp
        obtain ⟨t6, f6, hk⟩ := dS_elim hk
        refine EWP.ret ?_
        have he : upd e 6 (Value.string t6) = e := by rw [upd_self f6]
        refine (show _ ∧ _ from ⟨rfl, ?_⟩)
        rw [← he]
        exact eqMp (by as_aux_lemma => kernel_rfl : _ = (Q (Value.string t6) h)) hk
theorem lines_Splitter_first_s (p_0 : Option Addr) (n_1 : Int) (most_2 : Int) {Q : Value → Heap → Prop} {h : Heap} (hk : lines_Splitter_first_v p_0 n_1 most_2 Q h) : CallT Try.prog fn_lines_Splitter_first #[Value.pointer p_0, Value.int .i64 n_1, Value.int .i64 most_2] h Q := by
  obtain ⟨c, hb, he⟩ := lines_Splitter_first_e p_0 n_1 most_2 Q h hk
  exact callT_of (N := 23) Try.func28 hb rfl (Try.call28 _) (Nat.le_of_ble_eq_true rfl) he
/-! ### internal/stringslite.IndexByte -/
def internal_stringslite_IndexByte_b2 (s_0 : ByteArray) (c_1 : Int) (Q : Value → Heap → Prop) (h : Heap) : Prop :=
  CallT Try.prog fn_internal_bytealg_IndexByteString #[Value.string s_0, Value.int .u8 c_1] h fun v h1 => ∃ t7 : Int, v = Value.int .i64 t7 ∧ Q (Value.int .i64 t7) h1
def internal_stringslite_IndexByte_b1 (s_0 : ByteArray) (c_1 : Int) (Q : Value → Heap → Prop) (h : Heap) : Prop :=
  internal_stringslite_IndexByte_b2 s_0 c_1 Q h
def internal_stringslite_IndexByte_v (s_0 : ByteArray) (c_1 : Int) (Q : Value → Heap → Prop) (h : Heap) : Prop :=
  internal_stringslite_IndexByte_b1 s_0 c_1 Q h
set_option maxRecDepth 100000 in
theorem internal_stringslite_IndexByte_e (s_0 : ByteArray) (c_1 : Int) (Q : Value → Heap → Prop) (h : Heap) (hk : internal_stringslite_IndexByte_v s_0 c_1 Q h) :
    ∃ c, Try.f29.body = some c ∧ EWP Try.prog 8 c (fnPost Try.prog Try.f29 Q) (env0 #[Value.string s_0, Value.int .u8 c_1]) [] h := by
  refine ⟨_, rfl, ?_⟩
  have hk : internal_stringslite_IndexByte_b1 s_0 c_1 Q h := hk
  have f0 : env0 #[Value.string s_0, Value.int .u8 c_1] 0 = Value.string s_0 := rfl
  have f1 : env0 #[Value.string s_0, Value.int .u8 c_1] 1 = Value.int .u8 c_1 := rfl
  generalize env0 #[Value.string s_0, Value.int .u8 c_1] = e at *
  refine EWP.seqR (fun e h => internal_stringslite_IndexByte_b2 s_0 c_1 Q h) ?_ ?_ ?_
  · kernel_rfl
  · skip
    exact eqMp (by as_aux_lemma => kernel_rfl : _ = internal_stringslite_IndexByte_b1 s_0 c_1 Q h) hk
  · intro e h hp hk
    have f0 := (hp 0 (by kernel_rfl)).trans f0
    have f1 := (hp 1 (by kernel_rfl)).trans f1
    clear hp
    have he : upd (upd e 0 (Value.string s_0)) 1 (Value.int .u8 c_1) = e := by rw [upd_self f0, upd_self f1]
    refine EWP.seqR (fun e h => dI .i64 (e 4) fun t4 => Q (Value.int .i64 t4) h) ?_ ?_ ?_
    · kernel_rfl
    · rw [← he]
      exact eqMp (by as_aux_lemma => kernel_rfl : _ = internal_stringslite_IndexByte_b2 s_0 c_1 Q h) hk
    · intro e h hp hk
      clear hp
      obtain ⟨t4, f4, hk⟩ := dI_elim hk
      refine EWP.ret ?_
      have he : upd e 4 (Value.int .i64 t4) = e := by rw [upd_self f4]
      refine (show _ ∧ _ from ⟨rfl, ?_⟩)
      rw [← he]
      exact eqMp (by as_aux_lemma => kernel_rfl : _ = (Q (Value.int .i64 t4) h)) hk
theorem internal_stringslite_IndexByte_s (s_0 : ByteArray) (c_1 : Int) {Q : Value → Heap → Prop} {h : Heap} (hk : internal_stringslite_IndexByte_v s_0 c_1 Q h) : CallT Try.prog fn_internal_stringslite_IndexByte #[Value.string s_0, Value.int .u8 c_1] h Q := by
  obtain ⟨c, hb, he⟩ := internal_stringslite_IndexByte_e s_0 c_1 Q h hk
  exact callT_of (N := 8) Try.func29 hb rfl (Try.call29 _) (Nat.le_of_ble_eq_true rfl) he
end Go.Proofs.Ytooebihmkjkblaa
