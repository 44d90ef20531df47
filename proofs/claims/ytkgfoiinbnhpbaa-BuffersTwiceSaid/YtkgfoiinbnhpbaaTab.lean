/- The table of what each function comes to (printed by wip/emit/gentab.py). -/
import Derived.Test.YtkgfoiinbnhpbaaFn0
import Derived.Test.YtkgfoiinbnhpbaaFn1
import Derived.Test.YtkgfoiinbnhpbaaFn2
import Derived.Test.YtkgfoiinbnhpbaaEvZ
set_option linter.unusedVariables false
namespace Go.Ev.Ytkgfoiinbnhpbaa
open Go Go.Ev Go.Proofs
set_option maxRecDepth 100000
noncomputable def D4 (C : AFun) (n : Nat) (args : List V) (h : Hp) : Option (V × Hp) :=
asNil args (
plunderlaw21_BuffersTwice C n h)
theorem D4_ok (C : AFun) (n : Nat) : TabOK E C n (4, D4 C n) := by
  intro args h r hk0
  simp only [D4] at hk0
  obtain ⟨rfl, hk1⟩ := asNil_some hk0; clear hk0
  refine ⟨Try.f4, Try.func4, ?_⟩
  rw [plunderlaw21_BuffersTwice_eM]
  rw [plunderlaw21_BuffersTwice_eL0 C n n]
  exact hk1
noncomputable def D8 (C : AFun) (n : Nat) (args : List V) (h : Hp) : Option (V × Hp) :=
asCons args fun v1 l2 =>
asInt .i64 v1 fun p0 =>
asCons l2 fun v3 l4 =>
asInt .i64 v3 fun p1 =>
asCons l4 fun p2 l5 =>
asCons l5 fun v6 l7 =>
asInt .i64 v6 fun p3 =>
asCons l7 fun v8 l9 =>
asInt .i64 v8 fun p4 =>
asCons l9 fun v10 l11 =>
asBool v10 fun p5 =>
asCons l11 fun p6 l12 =>
asNil l12 (
buffers_Deque C n p0 p1 p2 p3 p4 p5 p6 h)
theorem D8_ok (C : AFun) (n : Nat) : TabOK E C n (8, D8 C n) := by
  intro args h r hk0
  simp only [D8] at hk0
  obtain ⟨v1, l2, rfl, hk1⟩ := asCons_some hk0; clear hk0
  obtain ⟨p0, rfl, hk2⟩ := asInt_some hk1; clear hk1
  obtain ⟨v3, l4, rfl, hk3⟩ := asCons_some hk2; clear hk2
  obtain ⟨p1, rfl, hk4⟩ := asInt_some hk3; clear hk3
  obtain ⟨p2, l5, rfl, hk5⟩ := asCons_some hk4; clear hk4
  obtain ⟨v6, l7, rfl, hk6⟩ := asCons_some hk5; clear hk5
  obtain ⟨p3, rfl, hk7⟩ := asInt_some hk6; clear hk6
  obtain ⟨v8, l9, rfl, hk8⟩ := asCons_some hk7; clear hk7
  obtain ⟨p4, rfl, hk9⟩ := asInt_some hk8; clear hk8
  obtain ⟨v10, l11, rfl, hk10⟩ := asCons_some hk9; clear hk9
  obtain ⟨p5, rfl, hk11⟩ := asBool_some hk10; clear hk10
  obtain ⟨p6, l12, rfl, hk12⟩ := asCons_some hk11; clear hk11
  obtain ⟨rfl, hk13⟩ := asNil_some hk12; clear hk12
  refine ⟨Try.f8, Try.func8, ?_⟩
  rw [buffers_Deque_eM]
  rw [buffers_Deque_eL0 C n n]
  exact hk13
noncomputable def D10 (C : AFun) (n : Nat) (args : List V) (h : Hp) : Option (V × Hp) :=
asNil args (
buffers_Twice C n h)
theorem D10_ok (C : AFun) (n : Nat) : TabOK E C n (10, D10 C n) := by
  intro args h r hk0
  simp only [D10] at hk0
  obtain ⟨rfl, hk1⟩ := asNil_some hk0; clear hk0
  refine ⟨Try.f10, Try.func10, ?_⟩
  rw [buffers_Twice_eM]
  exact hk1
noncomputable def D11 (C : AFun) (n : Nat) (args : List V) (h : Hp) : Option (V × Hp) :=
asCons args fun p0 l13 =>
asCons l13 fun p1 l14 =>
asNil l14 (
plunderlaw21_aloneInts C n p0 p1 h)
theorem D11_ok (C : AFun) (n : Nat) : TabOK E C n (11, D11 C n) := by
  intro args h r hk0
  simp only [D11] at hk0
  obtain ⟨p0, l13, rfl, hk1⟩ := asCons_some hk0; clear hk0
  obtain ⟨p1, l14, rfl, hk2⟩ := asCons_some hk1; clear hk1
  obtain ⟨rfl, hk3⟩ := asNil_some hk2; clear hk2
  refine ⟨Try.f11, Try.func11, ?_⟩
  rw [plunderlaw21_aloneInts_eM]
  rw [plunderlaw21_aloneInts_eL0 C n n]
  exact hk3
noncomputable def D12 (C : AFun) (n : Nat) (args : List V) (h : Hp) : Option (V × Hp) :=
asCons args fun v15 l16 =>
asAgg v15 fun l17 =>
asCons l17 fun p0_0 l18 =>
asCons l18 fun p0_1 l19 =>
asCons l19 fun p0_2 l20 =>
asNil l20 (
asNil l16 (
plunderlaw21_double C n p0_0 p0_1 p0_2 h))
theorem D12_ok (C : AFun) (n : Nat) : TabOK E C n (12, D12 C n) := by
  intro args h r hk0
  simp only [D12] at hk0
  obtain ⟨v15, l16, rfl, hk1⟩ := asCons_some hk0; clear hk0
  obtain ⟨l17, rfl, hk2⟩ := asAgg_some hk1; clear hk1
  obtain ⟨p0_0, l18, rfl, hk3⟩ := asCons_some hk2; clear hk2
  obtain ⟨p0_1, l19, rfl, hk4⟩ := asCons_some hk3; clear hk3
  obtain ⟨p0_2, l20, rfl, hk5⟩ := asCons_some hk4; clear hk4
  obtain ⟨rfl, hk6⟩ := asNil_some hk5; clear hk5
  obtain ⟨rfl, hk7⟩ := asNil_some hk6; clear hk6
  refine ⟨Try.f12, Try.func12, ?_⟩
  rw [plunderlaw21_double_eM]
  rw [plunderlaw21_double_eL0 C n n]
  exact hk7
noncomputable def D16 (C : AFun) (n : Nat) (args : List V) (h : Hp) : Option (V × Hp) :=
asCons args fun v21 l22 =>
asInt .i64 v21 fun p0 =>
asCons l22 fun v23 l24 =>
asInt .i64 v23 fun p1 =>
asCons l24 fun p2 l25 =>
asCons l25 fun v26 l27 =>
asInt .i64 v26 fun p3 =>
asCons l27 fun v28 l29 =>
asInt .i64 v28 fun p4 =>
asCons l29 fun p5 l30 =>
asNil l30 (
buffers_refused C n p0 p1 p2 p3 p4 p5 h)
theorem D16_ok (C : AFun) (n : Nat) : TabOK E C n (16, D16 C n) := by
  intro args h r hk0
  simp only [D16] at hk0
  obtain ⟨v21, l22, rfl, hk1⟩ := asCons_some hk0; clear hk0
  obtain ⟨p0, rfl, hk2⟩ := asInt_some hk1; clear hk1
  obtain ⟨v23, l24, rfl, hk3⟩ := asCons_some hk2; clear hk2
  obtain ⟨p1, rfl, hk4⟩ := asInt_some hk3; clear hk3
  obtain ⟨p2, l25, rfl, hk5⟩ := asCons_some hk4; clear hk4
  obtain ⟨v26, l27, rfl, hk6⟩ := asCons_some hk5; clear hk5
  obtain ⟨p3, rfl, hk7⟩ := asInt_some hk6; clear hk6
  obtain ⟨v28, l29, rfl, hk8⟩ := asCons_some hk7; clear hk7
  obtain ⟨p4, rfl, hk9⟩ := asInt_some hk8; clear hk8
  obtain ⟨p5, l30, rfl, hk10⟩ := asCons_some hk9; clear hk9
  obtain ⟨rfl, hk11⟩ := asNil_some hk10; clear hk10
  refine ⟨Try.f16, Try.func16, ?_⟩
  rw [buffers_refused_eM]
  rw [buffers_refused_eL0 C n n]
  exact hk11
noncomputable def D17 (C : AFun) (n : Nat) (args : List V) (h : Hp) : Option (V × Hp) :=
asCons args fun v31 l32 =>
asInt .i64 v31 fun p0 =>
asCons l32 fun v33 l34 =>
asInt .i64 v33 fun p1 =>
asCons l34 fun v35 l36 =>
asInt .i64 v35 fun p2 =>
asNil l36 (
buffers_New C n p0 p1 p2 h)
theorem D17_ok (C : AFun) (n : Nat) : TabOK E C n (17, D17 C n) := by
  intro args h r hk0
  simp only [D17] at hk0
  obtain ⟨v31, l32, rfl, hk1⟩ := asCons_some hk0; clear hk0
  obtain ⟨p0, rfl, hk2⟩ := asInt_some hk1; clear hk1
  obtain ⟨v33, l34, rfl, hk3⟩ := asCons_some hk2; clear hk2
  obtain ⟨p1, rfl, hk4⟩ := asInt_some hk3; clear hk3
  obtain ⟨v35, l36, rfl, hk5⟩ := asCons_some hk4; clear hk4
  obtain ⟨p2, rfl, hk6⟩ := asInt_some hk5; clear hk5
  obtain ⟨rfl, hk7⟩ := asNil_some hk6; clear hk6
  refine ⟨Try.f17, Try.func17, ?_⟩
  rw [buffers_New_eM]
  rw [buffers_New_eL0 C n n]
  exact hk7
noncomputable def D18 (C : AFun) (n : Nat) (args : List V) (h : Hp) : Option (V × Hp) :=
asCons args fun v37 l38 =>
asInt .i64 v37 fun p0 =>
asCons l38 fun v39 l40 =>
asInt .i64 v39 fun p1 =>
asNil l40 (
deque_Cells C n p0 p1 h)
theorem D18_ok (C : AFun) (n : Nat) : TabOK E C n (18, D18 C n) := by
  intro args h r hk0
  simp only [D18] at hk0
  obtain ⟨v37, l38, rfl, hk1⟩ := asCons_some hk0; clear hk0
  obtain ⟨p0, rfl, hk2⟩ := asInt_some hk1; clear hk1
  obtain ⟨v39, l40, rfl, hk3⟩ := asCons_some hk2; clear hk2
  obtain ⟨p1, rfl, hk4⟩ := asInt_some hk3; clear hk3
  obtain ⟨rfl, hk5⟩ := asNil_some hk4; clear hk4
  refine ⟨Try.f18, Try.func18, ?_⟩
  rw [deque_Cells_eM]
  rw [deque_Cells_eL0 C n n]
  exact hk5
noncomputable def D19 (C : AFun) (n : Nat) (args : List V) (h : Hp) : Option (V × Hp) :=
asCons args fun v41 l42 =>
asPtr v41 fun p0r p0g p0o =>
asCons l42 fun v43 l44 =>
asBool v43 fun p1 =>
asNil l44 (
cells_Arena_Watch C n p0r p0g p0o p1 h)
theorem D19_ok (C : AFun) (n : Nat) : TabOK E C n (19, D19 C n) := by
  intro args h r hk0
  simp only [D19] at hk0
  obtain ⟨v41, l42, rfl, hk1⟩ := asCons_some hk0; clear hk0
  obtain ⟨p0r, p0g, p0o, rfl, hk2⟩ := asPtr_some hk1; clear hk1
  obtain ⟨v43, l44, rfl, hk3⟩ := asCons_some hk2; clear hk2
  obtain ⟨p1, rfl, hk4⟩ := asBool_some hk3; clear hk3
  obtain ⟨rfl, hk5⟩ := asNil_some hk4; clear hk4
  refine ⟨Try.f19, Try.func19, ?_⟩
  rw [cells_Arena_Watch_eM]
  exact hk5
noncomputable def D20 (C : AFun) (n : Nat) (args : List V) (h : Hp) : Option (V × Hp) :=
asCons args fun p0 l45 =>
asCons l45 fun v46 l47 =>
asInt .i64 v46 fun p1 =>
asCons l47 fun v48 l49 =>
asInt .i64 v48 fun p2 =>
asNil l49 (
deque_New C n p0 p1 p2 h)
theorem D20_ok (C : AFun) (n : Nat) : TabOK E C n (20, D20 C n) := by
  intro args h r hk0
  simp only [D20] at hk0
  obtain ⟨p0, l45, rfl, hk1⟩ := asCons_some hk0; clear hk0
  obtain ⟨v46, l47, rfl, hk2⟩ := asCons_some hk1; clear hk1
  obtain ⟨p1, rfl, hk3⟩ := asInt_some hk2; clear hk2
  obtain ⟨v48, l49, rfl, hk4⟩ := asCons_some hk3; clear hk3
  obtain ⟨p2, rfl, hk5⟩ := asInt_some hk4; clear hk4
  obtain ⟨rfl, hk6⟩ := asNil_some hk5; clear hk5
  refine ⟨Try.f20, Try.func20, ?_⟩
  rw [deque_New_eM]
  exact hk6
noncomputable def D21 (C : AFun) (n : Nat) (args : List V) (h : Hp) : Option (V × Hp) :=
asCons args fun v50 l51 =>
asPtr v50 fun p0r p0g p0o =>
asCons l51 fun v52 l53 =>
asInt .i64 v52 fun p1 =>
asNil l53 (
buffers_Memory_View C n p0r p0g p0o p1 h)
theorem D21_ok (C : AFun) (n : Nat) : TabOK E C n (21, D21 C n) := by
  intro args h r hk0
  simp only [D21] at hk0
  obtain ⟨v50, l51, rfl, hk1⟩ := asCons_some hk0; clear hk0
  obtain ⟨p0r, p0g, p0o, rfl, hk2⟩ := asPtr_some hk1; clear hk1
  obtain ⟨v52, l53, rfl, hk3⟩ := asCons_some hk2; clear hk2
  obtain ⟨p1, rfl, hk4⟩ := asInt_some hk3; clear hk3
  obtain ⟨rfl, hk5⟩ := asNil_some hk4; clear hk4
  refine ⟨Try.f21, Try.func21, ?_⟩
  rw [buffers_Memory_View_eM]
  exact hk5
noncomputable def D22 (C : AFun) (n : Nat) (args : List V) (h : Hp) : Option (V × Hp) :=
asCons args fun v54 l55 =>
asPtr v54 fun p0r p0g p0o =>
asCons l55 fun v56 l57 =>
asInt .i64 v56 fun p1 =>
asNil l57 (
buffers_Memory_drain C n p0r p0g p0o p1 h)
theorem D22_ok (C : AFun) (n : Nat) : TabOK E C n (22, D22 C n) := by
  intro args h r hk0
  simp only [D22] at hk0
  obtain ⟨v54, l55, rfl, hk1⟩ := asCons_some hk0; clear hk0
  obtain ⟨p0r, p0g, p0o, rfl, hk2⟩ := asPtr_some hk1; clear hk1
  obtain ⟨v56, l57, rfl, hk3⟩ := asCons_some hk2; clear hk2
  obtain ⟨p1, rfl, hk4⟩ := asInt_some hk3; clear hk3
  obtain ⟨rfl, hk5⟩ := asNil_some hk4; clear hk4
  refine ⟨Try.f22, Try.func22, ?_⟩
  rw [buffers_Memory_drain_eM]
  rw [buffers_Memory_drain_eL0 C n n]
  exact hk5
noncomputable def D23 (C : AFun) (n : Nat) (args : List V) (h : Hp) : Option (V × Hp) :=
asCons args fun v58 l59 =>
asInt .i64 v58 fun p0 =>
asCons l59 fun v60 l61 =>
asInt .i64 v60 fun p1 =>
asNil l61 (
ops_Mod C n p0 p1 h)
theorem D23_ok (C : AFun) (n : Nat) : TabOK E C n (23, D23 C n) := by
  intro args h r hk0
  simp only [D23] at hk0
  obtain ⟨v58, l59, rfl, hk1⟩ := asCons_some hk0; clear hk0
  obtain ⟨p0, rfl, hk2⟩ := asInt_some hk1; clear hk1
  obtain ⟨v60, l61, rfl, hk3⟩ := asCons_some hk2; clear hk2
  obtain ⟨p1, rfl, hk4⟩ := asInt_some hk3; clear hk3
  obtain ⟨rfl, hk5⟩ := asNil_some hk4; clear hk4
  refine ⟨Try.f23, Try.func23, ?_⟩
  rw [ops_Mod_eM]
  exact hk5
noncomputable def D24 (C : AFun) (n : Nat) (args : List V) (h : Hp) : Option (V × Hp) :=
asCons args fun v62 l63 =>
asPtr v62 fun p0r p0g p0o =>
asCons l63 fun v64 l65 =>
asInt .i64 v64 fun p1 =>
asNil l65 (
buffers_Memory_Flush C n p0r p0g p0o p1 h)
theorem D24_ok (C : AFun) (n : Nat) : TabOK E C n (24, D24 C n) := by
  intro args h r hk0
  simp only [D24] at hk0
  obtain ⟨v62, l63, rfl, hk1⟩ := asCons_some hk0; clear hk0
  obtain ⟨p0r, p0g, p0o, rfl, hk2⟩ := asPtr_some hk1; clear hk1
  obtain ⟨v64, l65, rfl, hk3⟩ := asCons_some hk2; clear hk2
  obtain ⟨p1, rfl, hk4⟩ := asInt_some hk3; clear hk3
  obtain ⟨rfl, hk5⟩ := asNil_some hk4; clear hk4
  refine ⟨Try.f24, Try.func24, ?_⟩
  rw [buffers_Memory_Flush_eM]
  exact hk5
noncomputable def D25 (C : AFun) (n : Nat) (args : List V) (h : Hp) : Option (V × Hp) :=
asCons args fun v66 l67 =>
asPtr v66 fun p0r p0g p0o =>
asCons l67 fun v68 l69 =>
asInt .i64 v68 fun p1 =>
asCons l69 fun v70 l71 =>
asInt .i64 v70 fun p2 =>
asNil l71 (
buffers_game_step C n p0r p0g p0o p1 p2 h)
theorem D25_ok (C : AFun) (n : Nat) : TabOK E C n (25, D25 C n) := by
  intro args h r hk0
  simp only [D25] at hk0
  obtain ⟨v66, l67, rfl, hk1⟩ := asCons_some hk0; clear hk0
  obtain ⟨p0r, p0g, p0o, rfl, hk2⟩ := asPtr_some hk1; clear hk1
  obtain ⟨v68, l69, rfl, hk3⟩ := asCons_some hk2; clear hk2
  obtain ⟨p1, rfl, hk4⟩ := asInt_some hk3; clear hk3
  obtain ⟨v70, l71, rfl, hk5⟩ := asCons_some hk4; clear hk4
  obtain ⟨p2, rfl, hk6⟩ := asInt_some hk5; clear hk5
  obtain ⟨rfl, hk7⟩ := asNil_some hk6; clear hk6
  refine ⟨Try.f25, Try.func25, ?_⟩
  rw [buffers_game_step_eM]
  exact hk7
noncomputable def D26 (C : AFun) (n : Nat) (args : List V) (h : Hp) : Option (V × Hp) :=
asCons args fun v72 l73 =>
asPtr v72 fun p0r p0g p0o =>
asNil l73 (
buffers_game_rest C n p0r p0g p0o h)
theorem D26_ok (C : AFun) (n : Nat) : TabOK E C n (26, D26 C n) := by
  intro args h r hk0
  simp only [D26] at hk0
  obtain ⟨v72, l73, rfl, hk1⟩ := asCons_some hk0; clear hk0
  obtain ⟨p0r, p0g, p0o, rfl, hk2⟩ := asPtr_some hk1; clear hk1
  obtain ⟨rfl, hk3⟩ := asNil_some hk2; clear hk2
  refine ⟨Try.f26, Try.func26, ?_⟩
  rw [buffers_game_rest_eM]
  rw [buffers_game_rest_eL0 C n n]
  exact hk3
noncomputable def D27 (C : AFun) (n : Nat) (args : List V) (h : Hp) : Option (V × Hp) :=
asCons args fun v74 l75 =>
asPtr v74 fun p0r p0g p0o =>
asNil l75 (
buffers_Memory_Log C n p0r p0g p0o h)
theorem D27_ok (C : AFun) (n : Nat) : TabOK E C n (27, D27 C n) := by
  intro args h r hk0
  simp only [D27] at hk0
  obtain ⟨v74, l75, rfl, hk1⟩ := asCons_some hk0; clear hk0
  obtain ⟨p0r, p0g, p0o, rfl, hk2⟩ := asPtr_some hk1; clear hk1
  obtain ⟨rfl, hk3⟩ := asNil_some hk2; clear hk2
  refine ⟨Try.f27, Try.func27, ?_⟩
  rw [buffers_Memory_Log_eM]
  exact hk3
noncomputable def D28 (C : AFun) (n : Nat) (args : List V) (h : Hp) : Option (V × Hp) :=
asCons args fun p0 l76 =>
asNil l76 (
slices_Concat_int_int C n p0 h)
theorem D28_ok (C : AFun) (n : Nat) : TabOK E C n (28, D28 C n) := by
  intro args h r hk0
  simp only [D28] at hk0
  obtain ⟨p0, l76, rfl, hk1⟩ := asCons_some hk0; clear hk0
  obtain ⟨rfl, hk2⟩ := asNil_some hk1; clear hk1
  refine ⟨Try.f28, Try.func28, ?_⟩
  rw [slices_Concat_int_int_eM]
  rw [slices_Concat_int_int_eL0 C n n]
  exact hk2
noncomputable def D29 (C : AFun) (n : Nat) (args : List V) (h : Hp) : Option (V × Hp) :=
asCons args fun p0 l77 =>
asCons l77 fun v78 l79 =>
asInt .i64 v78 fun p1 =>
asNil l79 (
slices_Repeat_int_int C n p0 p1 h)
theorem D29_ok (C : AFun) (n : Nat) : TabOK E C n (29, D29 C n) := by
  intro args h r hk0
  simp only [D29] at hk0
  obtain ⟨p0, l77, rfl, hk1⟩ := asCons_some hk0; clear hk0
  obtain ⟨v78, l79, rfl, hk2⟩ := asCons_some hk1; clear hk1
  obtain ⟨p1, rfl, hk3⟩ := asInt_some hk2; clear hk2
  obtain ⟨rfl, hk4⟩ := asNil_some hk3; clear hk3
  refine ⟨Try.f29, Try.func29, ?_⟩
  rw [slices_Repeat_int_int_eM]
  rw [slices_Repeat_int_int_eL0 C n n]
  exact hk4
noncomputable def D30 (C : AFun) (n : Nat) (args : List V) (h : Hp) : Option (V × Hp) :=
asCons args fun p0 l80 =>
asCons l80 fun p1 l81 =>
asNil l81 (
plunderlaw21_sameInts C n p0 p1 h)
theorem D30_ok (C : AFun) (n : Nat) : TabOK E C n (30, D30 C n) := by
  intro args h r hk0
  simp only [D30] at hk0
  obtain ⟨p0, l80, rfl, hk1⟩ := asCons_some hk0; clear hk0
  obtain ⟨p1, l81, rfl, hk2⟩ := asCons_some hk1; clear hk1
  obtain ⟨rfl, hk3⟩ := asNil_some hk2; clear hk2
  refine ⟨Try.f30, Try.func30, ?_⟩
  rw [plunderlaw21_sameInts_eM]
  rw [plunderlaw21_sameInts_eL0 C n n]
  exact hk3
noncomputable def D32 (C : AFun) (n : Nat) (args : List V) (h : Hp) : Option (V × Hp) :=
asCons args fun v82 l83 =>
asInt .i64 v82 fun p0 =>
asNil l83 (
cells_New C n p0 h)
theorem D32_ok (C : AFun) (n : Nat) : TabOK E C n (32, D32 C n) := by
  intro args h r hk0
  simp only [D32] at hk0
  obtain ⟨v82, l83, rfl, hk1⟩ := asCons_some hk0; clear hk0
  obtain ⟨p0, rfl, hk2⟩ := asInt_some hk1; clear hk1
  obtain ⟨rfl, hk3⟩ := asNil_some hk2; clear hk2
  refine ⟨Try.f32, Try.func32, ?_⟩
  rw [cells_New_eM]
  exact hk3
noncomputable def D35 (C : AFun) (n : Nat) (args : List V) (h : Hp) : Option (V × Hp) :=
asCons args fun v84 l85 =>
asPtr v84 fun p0r p0g p0o =>
asNil l85 (
cells_Arena_Log C n p0r p0g p0o h)
theorem D35_ok (C : AFun) (n : Nat) : TabOK E C n (35, D35 C n) := by
  intro args h r hk0
  simp only [D35] at hk0
  obtain ⟨v84, l85, rfl, hk1⟩ := asCons_some hk0; clear hk0
  obtain ⟨p0r, p0g, p0o, rfl, hk2⟩ := asPtr_some hk1; clear hk1
  obtain ⟨rfl, hk3⟩ := asNil_some hk2; clear hk2
  refine ⟨Try.f35, Try.func35, ?_⟩
  rw [cells_Arena_Log_eM]
  exact hk3
noncomputable def D36 (C : AFun) (n : Nat) (args : List V) (h : Hp) : Option (V × Hp) :=
asCons args fun v86 l87 =>
asInt .i64 v86 fun p0 =>
asCons l87 fun v88 l89 =>
asInt .i64 v88 fun p1 =>
asNil l89 (
deque_capsOK C n p0 p1 h)
theorem D36_ok (C : AFun) (n : Nat) : TabOK E C n (36, D36 C n) := by
  intro args h r hk0
  simp only [D36] at hk0
  obtain ⟨v86, l87, rfl, hk1⟩ := asCons_some hk0; clear hk0
  obtain ⟨p0, rfl, hk2⟩ := asInt_some hk1; clear hk1
  obtain ⟨v88, l89, rfl, hk3⟩ := asCons_some hk2; clear hk2
  obtain ⟨p1, rfl, hk4⟩ := asInt_some hk3; clear hk3
  obtain ⟨rfl, hk5⟩ := asNil_some hk4; clear hk4
  refine ⟨Try.f36, Try.func36, ?_⟩
  rw [deque_capsOK_eM]
  exact hk5
noncomputable def D37 (C : AFun) (n : Nat) (args : List V) (h : Hp) : Option (V × Hp) :=
asCons args fun v90 l91 =>
asPtr v90 fun p0r p0g p0o =>
asCons l91 fun v92 l93 =>
asInt .i64 v92 fun p1 =>
asNil l93 (
buffers_Memory_has C n p0r p0g p0o p1 h)
theorem D37_ok (C : AFun) (n : Nat) : TabOK E C n (37, D37 C n) := by
  intro args h r hk0
  simp only [D37] at hk0
  obtain ⟨v90, l91, rfl, hk1⟩ := asCons_some hk0; clear hk0
  obtain ⟨p0r, p0g, p0o, rfl, hk2⟩ := asPtr_some hk1; clear hk1
  obtain ⟨v92, l93, rfl, hk3⟩ := asCons_some hk2; clear hk2
  obtain ⟨p1, rfl, hk4⟩ := asInt_some hk3; clear hk3
  obtain ⟨rfl, hk5⟩ := asNil_some hk4; clear hk4
  refine ⟨Try.f37, Try.func37, ?_⟩
  rw [buffers_Memory_has_eM]
  exact hk5
noncomputable def D38 (C : AFun) (n : Nat) (args : List V) (h : Hp) : Option (V × Hp) :=
asCons args fun v94 l95 =>
asPtr v94 fun p0r p0g p0o =>
asCons l95 fun v96 l97 =>
asInt .i64 v96 fun p1 =>
asNil l97 (
cells_Arena_Who C n p0r p0g p0o p1 h)
theorem D38_ok (C : AFun) (n : Nat) : TabOK E C n (38, D38 C n) := by
  intro args h r hk0
  simp only [D38] at hk0
  obtain ⟨v94, l95, rfl, hk1⟩ := asCons_some hk0; clear hk0
  obtain ⟨p0r, p0g, p0o, rfl, hk2⟩ := asPtr_some hk1; clear hk1
  obtain ⟨v96, l97, rfl, hk3⟩ := asCons_some hk2; clear hk2
  obtain ⟨p1, rfl, hk4⟩ := asInt_some hk3; clear hk3
  obtain ⟨rfl, hk5⟩ := asNil_some hk4; clear hk4
  refine ⟨Try.f38, Try.func38, ?_⟩
  rw [cells_Arena_Who_eM]
  exact hk5
noncomputable def D39 (C : AFun) (n : Nat) (args : List V) (h : Hp) : Option (V × Hp) :=
asCons args fun v98 l99 =>
asPtr v98 fun p0r p0g p0o =>
asCons l99 fun v100 l101 =>
asInt .i64 v100 fun p1 =>
asCons l101 fun v102 l103 =>
asInt .i64 v102 fun p2 =>
asNil l103 (
cells_Arena_Store C n p0r p0g p0o p1 p2 h)
theorem D39_ok (C : AFun) (n : Nat) : TabOK E C n (39, D39 C n) := by
  intro args h r hk0
  simp only [D39] at hk0
  obtain ⟨v98, l99, rfl, hk1⟩ := asCons_some hk0; clear hk0
  obtain ⟨p0r, p0g, p0o, rfl, hk2⟩ := asPtr_some hk1; clear hk1
  obtain ⟨v100, l101, rfl, hk3⟩ := asCons_some hk2; clear hk2
  obtain ⟨p1, rfl, hk4⟩ := asInt_some hk3; clear hk3
  obtain ⟨v102, l103, rfl, hk5⟩ := asCons_some hk4; clear hk4
  obtain ⟨p2, rfl, hk6⟩ := asInt_some hk5; clear hk5
  obtain ⟨rfl, hk7⟩ := asNil_some hk6; clear hk6
  refine ⟨Try.f39, Try.func39, ?_⟩
  rw [cells_Arena_Store_eM]
  exact hk7
noncomputable def D40 (C : AFun) (n : Nat) (args : List V) (h : Hp) : Option (V × Hp) :=
asCons args fun v104 l105 =>
asPtr v104 fun p0r p0g p0o =>
asCons l105 fun v106 l107 =>
asInt .i64 v106 fun p1 =>
asCons l107 fun v108 l109 =>
asInt .i64 v108 fun p2 =>
asNil l109 (
buffers_game_begin C n p0r p0g p0o p1 p2 h)
theorem D40_ok (C : AFun) (n : Nat) : TabOK E C n (40, D40 C n) := by
  intro args h r hk0
  simp only [D40] at hk0
  obtain ⟨v104, l105, rfl, hk1⟩ := asCons_some hk0; clear hk0
  obtain ⟨p0r, p0g, p0o, rfl, hk2⟩ := asPtr_some hk1; clear hk1
  obtain ⟨v106, l107, rfl, hk3⟩ := asCons_some hk2; clear hk2
  obtain ⟨p1, rfl, hk4⟩ := asInt_some hk3; clear hk3
  obtain ⟨v108, l109, rfl, hk5⟩ := asCons_some hk4; clear hk4
  obtain ⟨p2, rfl, hk6⟩ := asInt_some hk5; clear hk5
  obtain ⟨rfl, hk7⟩ := asNil_some hk6; clear hk6
  refine ⟨Try.f40, Try.func40, ?_⟩
  rw [buffers_game_begin_eM]
  exact hk7
noncomputable def D41 (C : AFun) (n : Nat) (args : List V) (h : Hp) : Option (V × Hp) :=
asCons args fun p0 l110 =>
asCons l110 fun v111 l112 =>
asAgg v111 fun l113 =>
asCons l113 fun v114 l115 =>
asInt .i64 v114 fun p1_0 =>
asCons l115 fun v116 l117 =>
asInt .i64 v116 fun p1_1 =>
asCons l117 fun v118 l119 =>
asInt .i64 v118 fun p1_2 =>
asCons l119 fun v120 l121 =>
asInt .i64 v120 fun p1_3 =>
asCons l121 fun v122 l123 =>
asInt .i64 v122 fun p1_4 =>
asCons l123 fun v124 l125 =>
asInt .i64 v124 fun p1_5 =>
asCons l125 fun v126 l127 =>
asInt .i64 v126 fun p1_6 =>
asCons l127 fun v128 l129 =>
asInt .i64 v128 fun p1_7 =>
asCons l129 fun v130 l131 =>
asInt .i64 v130 fun p1_8 =>
asCons l131 fun v132 l133 =>
asInt .i64 v132 fun p1_9 =>
asCons l133 fun v134 l135 =>
asInt .i64 v134 fun p1_10 =>
asCons l135 fun v136 l137 =>
asInt .i64 v136 fun p1_11 =>
asCons l137 fun v138 l139 =>
asInt .i64 v138 fun p1_12 =>
asCons l139 fun v140 l141 =>
asBool v140 fun p1_13 =>
asCons l141 fun v142 l143 =>
asInt .i64 v142 fun p1_14 =>
asCons l143 fun v144 l145 =>
asInt .i64 v144 fun p1_15 =>
asNil l145 (
asNil l112 (
deque_Step C n p0 p1_0 p1_1 p1_2 p1_3 p1_4 p1_5 p1_6 p1_7 p1_8 p1_9 p1_10 p1_11 p1_12 p1_13 p1_14 p1_15 h))
theorem D41_ok (C : AFun) (n : Nat) : TabOK E C n (41, D41 C n) := by
  intro args h r hk0
  simp only [D41] at hk0
  obtain ⟨p0, l110, rfl, hk1⟩ := asCons_some hk0; clear hk0
  obtain ⟨v111, l112, rfl, hk2⟩ := asCons_some hk1; clear hk1
  obtain ⟨l113, rfl, hk3⟩ := asAgg_some hk2; clear hk2
  obtain ⟨v114, l115, rfl, hk4⟩ := asCons_some hk3; clear hk3
  obtain ⟨p1_0, rfl, hk5⟩ := asInt_some hk4; clear hk4
  obtain ⟨v116, l117, rfl, hk6⟩ := asCons_some hk5; clear hk5
  obtain ⟨p1_1, rfl, hk7⟩ := asInt_some hk6; clear hk6
  obtain ⟨v118, l119, rfl, hk8⟩ := asCons_some hk7; clear hk7
  obtain ⟨p1_2, rfl, hk9⟩ := asInt_some hk8; clear hk8
  obtain ⟨v120, l121, rfl, hk10⟩ := asCons_some hk9; clear hk9
  obtain ⟨p1_3, rfl, hk11⟩ := asInt_some hk10; clear hk10
  obtain ⟨v122, l123, rfl, hk12⟩ := asCons_some hk11; clear hk11
  obtain ⟨p1_4, rfl, hk13⟩ := asInt_some hk12; clear hk12
  obtain ⟨v124, l125, rfl, hk14⟩ := asCons_some hk13; clear hk13
  obtain ⟨p1_5, rfl, hk15⟩ := asInt_some hk14; clear hk14
  obtain ⟨v126, l127, rfl, hk16⟩ := asCons_some hk15; clear hk15
  obtain ⟨p1_6, rfl, hk17⟩ := asInt_some hk16; clear hk16
  obtain ⟨v128, l129, rfl, hk18⟩ := asCons_some hk17; clear hk17
  obtain ⟨p1_7, rfl, hk19⟩ := asInt_some hk18; clear hk18
  obtain ⟨v130, l131, rfl, hk20⟩ := asCons_some hk19; clear hk19
  obtain ⟨p1_8, rfl, hk21⟩ := asInt_some hk20; clear hk20
  obtain ⟨v132, l133, rfl, hk22⟩ := asCons_some hk21; clear hk21
  obtain ⟨p1_9, rfl, hk23⟩ := asInt_some hk22; clear hk22
  obtain ⟨v134, l135, rfl, hk24⟩ := asCons_some hk23; clear hk23
  obtain ⟨p1_10, rfl, hk25⟩ := asInt_some hk24; clear hk24
  obtain ⟨v136, l137, rfl, hk26⟩ := asCons_some hk25; clear hk25
  obtain ⟨p1_11, rfl, hk27⟩ := asInt_some hk26; clear hk26
  obtain ⟨v138, l139, rfl, hk28⟩ := asCons_some hk27; clear hk27
  obtain ⟨p1_12, rfl, hk29⟩ := asInt_some hk28; clear hk28
  obtain ⟨v140, l141, rfl, hk30⟩ := asCons_some hk29; clear hk29
  obtain ⟨p1_13, rfl, hk31⟩ := asBool_some hk30; clear hk30
  obtain ⟨v142, l143, rfl, hk32⟩ := asCons_some hk31; clear hk31
  obtain ⟨p1_14, rfl, hk33⟩ := asInt_some hk32; clear hk32
  obtain ⟨v144, l145, rfl, hk34⟩ := asCons_some hk33; clear hk33
  obtain ⟨p1_15, rfl, hk35⟩ := asInt_some hk34; clear hk34
  obtain ⟨rfl, hk36⟩ := asNil_some hk35; clear hk35
  obtain ⟨rfl, hk37⟩ := asNil_some hk36; clear hk36
  refine ⟨Try.f41, Try.func41, ?_⟩
  rw [deque_Step_eM]
  exact hk37
noncomputable def D42 (C : AFun) (n : Nat) (args : List V) (h : Hp) : Option (V × Hp) :=
asCons args fun v146 l147 =>
asPtr v146 fun p0r p0g p0o =>
asCons l147 fun v148 l149 =>
asInt .i64 v148 fun p1 =>
asNil l149 (
buffers_game_on C n p0r p0g p0o p1 h)
theorem D42_ok (C : AFun) (n : Nat) : TabOK E C n (42, D42 C n) := by
  intro args h r hk0
  simp only [D42] at hk0
  obtain ⟨v146, l147, rfl, hk1⟩ := asCons_some hk0; clear hk0
  obtain ⟨p0r, p0g, p0o, rfl, hk2⟩ := asPtr_some hk1; clear hk1
  obtain ⟨v148, l149, rfl, hk3⟩ := asCons_some hk2; clear hk2
  obtain ⟨p1, rfl, hk4⟩ := asInt_some hk3; clear hk3
  obtain ⟨rfl, hk5⟩ := asNil_some hk4; clear hk4
  refine ⟨Try.f42, Try.func42, ?_⟩
  rw [buffers_game_on_eM]
  exact hk5
noncomputable def D43 (C : AFun) (n : Nat) (args : List V) (h : Hp) : Option (V × Hp) :=
asCons args fun v150 l151 =>
asAgg v150 fun l152 =>
asCons l152 fun v153 l154 =>
asInt .i64 v153 fun p0_0 =>
asCons l154 fun v155 l156 =>
asInt .i64 v155 fun p0_1 =>
asCons l156 fun v157 l158 =>
asInt .i64 v157 fun p0_2 =>
asCons l158 fun v159 l160 =>
asInt .i64 v159 fun p0_3 =>
asCons l160 fun v161 l162 =>
asInt .i64 v161 fun p0_4 =>
asCons l162 fun v163 l164 =>
asInt .i64 v163 fun p0_5 =>
asCons l164 fun v165 l166 =>
asInt .i64 v165 fun p0_6 =>
asCons l166 fun v167 l168 =>
asInt .i64 v167 fun p0_7 =>
asCons l168 fun v169 l170 =>
asInt .i64 v169 fun p0_8 =>
asCons l170 fun v171 l172 =>
asInt .i64 v171 fun p0_9 =>
asCons l172 fun v173 l174 =>
asInt .i64 v173 fun p0_10 =>
asCons l174 fun v175 l176 =>
asInt .i64 v175 fun p0_11 =>
asCons l176 fun v177 l178 =>
asInt .i64 v177 fun p0_12 =>
asCons l178 fun v179 l180 =>
asBool v179 fun p0_13 =>
asCons l180 fun v181 l182 =>
asInt .i64 v181 fun p0_14 =>
asCons l182 fun v183 l184 =>
asInt .i64 v183 fun p0_15 =>
asNil l184 (
asNil l151 (
deque_Answer C n p0_0 p0_1 p0_2 p0_3 p0_4 p0_5 p0_6 p0_7 p0_8 p0_9 p0_10 p0_11 p0_12 p0_13 p0_14 p0_15 h))
theorem D43_ok (C : AFun) (n : Nat) : TabOK E C n (43, D43 C n) := by
  intro args h r hk0
  simp only [D43] at hk0
  obtain ⟨v150, l151, rfl, hk1⟩ := asCons_some hk0; clear hk0
  obtain ⟨l152, rfl, hk2⟩ := asAgg_some hk1; clear hk1
  obtain ⟨v153, l154, rfl, hk3⟩ := asCons_some hk2; clear hk2
  obtain ⟨p0_0, rfl, hk4⟩ := asInt_some hk3; clear hk3
  obtain ⟨v155, l156, rfl, hk5⟩ := asCons_some hk4; clear hk4
  obtain ⟨p0_1, rfl, hk6⟩ := asInt_some hk5; clear hk5
  obtain ⟨v157, l158, rfl, hk7⟩ := asCons_some hk6; clear hk6
  obtain ⟨p0_2, rfl, hk8⟩ := asInt_some hk7; clear hk7
  obtain ⟨v159, l160, rfl, hk9⟩ := asCons_some hk8; clear hk8
  obtain ⟨p0_3, rfl, hk10⟩ := asInt_some hk9; clear hk9
  obtain ⟨v161, l162, rfl, hk11⟩ := asCons_some hk10; clear hk10
  obtain ⟨p0_4, rfl, hk12⟩ := asInt_some hk11; clear hk11
  obtain ⟨v163, l164, rfl, hk13⟩ := asCons_some hk12; clear hk12
  obtain ⟨p0_5, rfl, hk14⟩ := asInt_some hk13; clear hk13
  obtain ⟨v165, l166, rfl, hk15⟩ := asCons_some hk14; clear hk14
  obtain ⟨p0_6, rfl, hk16⟩ := asInt_some hk15; clear hk15
  obtain ⟨v167, l168, rfl, hk17⟩ := asCons_some hk16; clear hk16
  obtain ⟨p0_7, rfl, hk18⟩ := asInt_some hk17; clear hk17
  obtain ⟨v169, l170, rfl, hk19⟩ := asCons_some hk18; clear hk18
  obtain ⟨p0_8, rfl, hk20⟩ := asInt_some hk19; clear hk19
  obtain ⟨v171, l172, rfl, hk21⟩ := asCons_some hk20; clear hk20
  obtain ⟨p0_9, rfl, hk22⟩ := asInt_some hk21; clear hk21
  obtain ⟨v173, l174, rfl, hk23⟩ := asCons_some hk22; clear hk22
  obtain ⟨p0_10, rfl, hk24⟩ := asInt_some hk23; clear hk23
  obtain ⟨v175, l176, rfl, hk25⟩ := asCons_some hk24; clear hk24
  obtain ⟨p0_11, rfl, hk26⟩ := asInt_some hk25; clear hk25
  obtain ⟨v177, l178, rfl, hk27⟩ := asCons_some hk26; clear hk26
  obtain ⟨p0_12, rfl, hk28⟩ := asInt_some hk27; clear hk27
  obtain ⟨v179, l180, rfl, hk29⟩ := asCons_some hk28; clear hk28
  obtain ⟨p0_13, rfl, hk30⟩ := asBool_some hk29; clear hk29
  obtain ⟨v181, l182, rfl, hk31⟩ := asCons_some hk30; clear hk30
  obtain ⟨p0_14, rfl, hk32⟩ := asInt_some hk31; clear hk31
  obtain ⟨v183, l184, rfl, hk33⟩ := asCons_some hk32; clear hk32
  obtain ⟨p0_15, rfl, hk34⟩ := asInt_some hk33; clear hk33
  obtain ⟨rfl, hk35⟩ := asNil_some hk34; clear hk34
  obtain ⟨rfl, hk36⟩ := asNil_some hk35; clear hk35
  refine ⟨Try.f43, Try.func43, ?_⟩
  rw [deque_Answer_eM]
  exact hk36
noncomputable def D44 (C : AFun) (n : Nat) (args : List V) (h : Hp) : Option (V × Hp) :=
asCons args fun v185 l186 =>
asPtr v185 fun p0r p0g p0o =>
asNil l186 (
buffers_Memory_Cells C n p0r p0g p0o h)
theorem D44_ok (C : AFun) (n : Nat) : TabOK E C n (44, D44 C n) := by
  intro args h r hk0
  simp only [D44] at hk0
  obtain ⟨v185, l186, rfl, hk1⟩ := asCons_some hk0; clear hk0
  obtain ⟨p0r, p0g, p0o, rfl, hk2⟩ := asPtr_some hk1; clear hk1
  obtain ⟨rfl, hk3⟩ := asNil_some hk2; clear hk2
  refine ⟨Try.f44, Try.func44, ?_⟩
  rw [buffers_Memory_Cells_eM]
  exact hk3
noncomputable def D45 (C : AFun) (n : Nat) (args : List V) (h : Hp) : Option (V × Hp) :=
asCons args fun p0 l187 =>
asCons l187 fun v188 l189 =>
asInt .i64 v188 fun p1 =>
asNil l189 (
slices_Grow_int_int C n p0 p1 h)
theorem D45_ok (C : AFun) (n : Nat) : TabOK E C n (45, D45 C n) := by
  intro args h r hk0
  simp only [D45] at hk0
  obtain ⟨p0, l187, rfl, hk1⟩ := asCons_some hk0; clear hk0
  obtain ⟨v188, l189, rfl, hk2⟩ := asCons_some hk1; clear hk1
  obtain ⟨p1, rfl, hk3⟩ := asInt_some hk2; clear hk2
  obtain ⟨rfl, hk4⟩ := asNil_some hk3; clear hk3
  refine ⟨Try.f45, Try.func45, ?_⟩
  rw [slices_Grow_int_int_eM]
  exact hk4
noncomputable def D46 (C : AFun) (n : Nat) (args : List V) (h : Hp) : Option (V × Hp) :=
asCons args fun v190 l191 =>
asInt .u64 v190 fun p0 =>
asCons l191 fun v192 l193 =>
asInt .u64 v192 fun p1 =>
asNil l193 (
math_bits_Mul C n p0 p1 h)
theorem D46_ok (C : AFun) (n : Nat) : TabOK E C n (46, D46 C n) := by
  intro args h r hk0
  simp only [D46] at hk0
  obtain ⟨v190, l191, rfl, hk1⟩ := asCons_some hk0; clear hk0
  obtain ⟨p0, rfl, hk2⟩ := asInt_some hk1; clear hk1
  obtain ⟨v192, l193, rfl, hk3⟩ := asCons_some hk2; clear hk2
  obtain ⟨p1, rfl, hk4⟩ := asInt_some hk3; clear hk3
  obtain ⟨rfl, hk5⟩ := asNil_some hk4; clear hk4
  refine ⟨Try.f46, Try.func46, ?_⟩
  rw [math_bits_Mul_eM]
  exact hk5
noncomputable def D47 (C : AFun) (n : Nat) (args : List V) (h : Hp) : Option (V × Hp) :=
asCons args fun v194 l195 =>
asInt .i64 v194 fun p0 =>
asNil l195 (
cells_good C n p0 h)
theorem D47_ok (C : AFun) (n : Nat) : TabOK E C n (47, D47 C n) := by
  intro args h r hk0
  simp only [D47] at hk0
  obtain ⟨v194, l195, rfl, hk1⟩ := asCons_some hk0; clear hk0
  obtain ⟨p0, rfl, hk2⟩ := asInt_some hk1; clear hk1
  obtain ⟨rfl, hk3⟩ := asNil_some hk2; clear hk2
  refine ⟨Try.f47, Try.func47, ?_⟩
  rw [cells_good_eM]
  exact hk3
noncomputable def D49 (C : AFun) (n : Nat) (args : List V) (h : Hp) : Option (V × Hp) :=
asCons args fun v196 l197 =>
asPtr v196 fun p0r p0g p0o =>
asNil l197 (
cells_Arena_Cells C n p0r p0g p0o h)
theorem D49_ok (C : AFun) (n : Nat) : TabOK E C n (49, D49 C n) := by
  intro args h r hk0
  simp only [D49] at hk0
  obtain ⟨v196, l197, rfl, hk1⟩ := asCons_some hk0; clear hk0
  obtain ⟨p0r, p0g, p0o, rfl, hk2⟩ := asPtr_some hk1; clear hk1
  obtain ⟨rfl, hk3⟩ := asNil_some hk2; clear hk2
  refine ⟨Try.f49, Try.func49, ?_⟩
  rw [cells_Arena_Cells_eM]
  exact hk3
noncomputable def D50 (C : AFun) (n : Nat) (args : List V) (h : Hp) : Option (V × Hp) :=
asCons args fun v198 l199 =>
asInt .i64 v198 fun p0 =>
asCons l199 fun v200 l201 =>
asInt .i64 v200 fun p1 =>
asCons l201 fun v202 l203 =>
asInt .i64 v202 fun p2 =>
asNil l203 (
deque_place C n p0 p1 p2 h)
theorem D50_ok (C : AFun) (n : Nat) : TabOK E C n (50, D50 C n) := by
  intro args h r hk0
  simp only [D50] at hk0
  obtain ⟨v198, l199, rfl, hk1⟩ := asCons_some hk0; clear hk0
  obtain ⟨p0, rfl, hk2⟩ := asInt_some hk1; clear hk1
  obtain ⟨v200, l201, rfl, hk3⟩ := asCons_some hk2; clear hk2
  obtain ⟨p1, rfl, hk4⟩ := asInt_some hk3; clear hk3
  obtain ⟨v202, l203, rfl, hk5⟩ := asCons_some hk4; clear hk4
  obtain ⟨p2, rfl, hk6⟩ := asInt_some hk5; clear hk5
  obtain ⟨rfl, hk7⟩ := asNil_some hk6; clear hk6
  refine ⟨Try.f50, Try.func50, ?_⟩
  rw [deque_place_eM]
  exact hk7
noncomputable def D51 (C : AFun) (n : Nat) (args : List V) (h : Hp) : Option (V × Hp) :=
asCons args fun v204 l205 =>
asPtr v204 fun p0r p0g p0o =>
asCons l205 fun v206 l207 =>
asInt .i64 v206 fun p1 =>
asNil l207 (
cells_Arena_outside C n p0r p0g p0o p1 h)
theorem D51_ok (C : AFun) (n : Nat) : TabOK E C n (51, D51 C n) := by
  intro args h r hk0
  simp only [D51] at hk0
  obtain ⟨v204, l205, rfl, hk1⟩ := asCons_some hk0; clear hk0
  obtain ⟨p0r, p0g, p0o, rfl, hk2⟩ := asPtr_some hk1; clear hk1
  obtain ⟨v206, l207, rfl, hk3⟩ := asCons_some hk2; clear hk2
  obtain ⟨p1, rfl, hk4⟩ := asInt_some hk3; clear hk3
  obtain ⟨rfl, hk5⟩ := asNil_some hk4; clear hk4
  refine ⟨Try.f51, Try.func51, ?_⟩
  rw [cells_Arena_outside_eM]
  exact hk5
noncomputable def D52 (C : AFun) (n : Nat) (args : List V) (h : Hp) : Option (V × Hp) :=
asCons args fun v208 l209 =>
asPtr v208 fun p0r p0g p0o =>
asCons l209 fun v210 l211 =>
asInt .i64 v210 fun p1 =>
asCons l211 fun v212 l213 =>
asInt .i64 v212 fun p2 =>
asCons l213 fun v214 l215 =>
asInt .i64 v214 fun p3 =>
asCons l215 fun v216 l217 =>
asInt .i64 v216 fun p4 =>
asCons l217 fun v218 l219 =>
asBool v218 fun p5 =>
asNil l219 (
cells_Arena_note C n p0r p0g p0o p1 p2 p3 p4 p5 h)
theorem D52_ok (C : AFun) (n : Nat) : TabOK E C n (52, D52 C n) := by
  intro args h r hk0
  simp only [D52] at hk0
  obtain ⟨v208, l209, rfl, hk1⟩ := asCons_some hk0; clear hk0
  obtain ⟨p0r, p0g, p0o, rfl, hk2⟩ := asPtr_some hk1; clear hk1
  obtain ⟨v210, l211, rfl, hk3⟩ := asCons_some hk2; clear hk2
  obtain ⟨p1, rfl, hk4⟩ := asInt_some hk3; clear hk3
  obtain ⟨v212, l213, rfl, hk5⟩ := asCons_some hk4; clear hk4
  obtain ⟨p2, rfl, hk6⟩ := asInt_some hk5; clear hk5
  obtain ⟨v214, l215, rfl, hk7⟩ := asCons_some hk6; clear hk6
  obtain ⟨p3, rfl, hk8⟩ := asInt_some hk7; clear hk7
  obtain ⟨v216, l217, rfl, hk9⟩ := asCons_some hk8; clear hk8
  obtain ⟨p4, rfl, hk10⟩ := asInt_some hk9; clear hk9
  obtain ⟨v218, l219, rfl, hk11⟩ := asCons_some hk10; clear hk10
  obtain ⟨p5, rfl, hk12⟩ := asBool_some hk11; clear hk11
  obtain ⟨rfl, hk13⟩ := asNil_some hk12; clear hk12
  refine ⟨Try.f52, Try.func52, ?_⟩
  rw [cells_Arena_note_eM]
  exact hk13
noncomputable def D53 (C : AFun) (n : Nat) (args : List V) (h : Hp) : Option (V × Hp) :=
asCons args fun v220 l221 =>
asAgg v220 fun l222 =>
asCons l222 fun v223 l224 =>
asInt .i64 v223 fun p0_0 =>
asCons l224 fun v225 l226 =>
asInt .i64 v225 fun p0_1 =>
asNil l226 (
asNil l221 (
deque_Steal C n p0_0 p0_1 h))
theorem D53_ok (C : AFun) (n : Nat) : TabOK E C n (53, D53 C n) := by
  intro args h r hk0
  simp only [D53] at hk0
  obtain ⟨v220, l221, rfl, hk1⟩ := asCons_some hk0; clear hk0
  obtain ⟨l222, rfl, hk2⟩ := asAgg_some hk1; clear hk1
  obtain ⟨v223, l224, rfl, hk3⟩ := asCons_some hk2; clear hk2
  obtain ⟨p0_0, rfl, hk4⟩ := asInt_some hk3; clear hk3
  obtain ⟨v225, l226, rfl, hk5⟩ := asCons_some hk4; clear hk4
  obtain ⟨p0_1, rfl, hk6⟩ := asInt_some hk5; clear hk5
  obtain ⟨rfl, hk7⟩ := asNil_some hk6; clear hk6
  obtain ⟨rfl, hk8⟩ := asNil_some hk7; clear hk7
  refine ⟨Try.f53, Try.func53, ?_⟩
  rw [deque_Steal_eM]
  exact hk8
noncomputable def D54 (C : AFun) (n : Nat) (args : List V) (h : Hp) : Option (V × Hp) :=
asCons args fun v227 l228 =>
asAgg v227 fun l229 =>
asCons l229 fun v230 l231 =>
asInt .i64 v230 fun p0_0 =>
asCons l231 fun v232 l233 =>
asInt .i64 v232 fun p0_1 =>
asNil l233 (
asNil l228 (
deque_Pop C n p0_0 p0_1 h))
theorem D54_ok (C : AFun) (n : Nat) : TabOK E C n (54, D54 C n) := by
  intro args h r hk0
  simp only [D54] at hk0
  obtain ⟨v227, l228, rfl, hk1⟩ := asCons_some hk0; clear hk0
  obtain ⟨l229, rfl, hk2⟩ := asAgg_some hk1; clear hk1
  obtain ⟨v230, l231, rfl, hk3⟩ := asCons_some hk2; clear hk2
  obtain ⟨p0_0, rfl, hk4⟩ := asInt_some hk3; clear hk3
  obtain ⟨v232, l233, rfl, hk5⟩ := asCons_some hk4; clear hk4
  obtain ⟨p0_1, rfl, hk6⟩ := asInt_some hk5; clear hk5
  obtain ⟨rfl, hk7⟩ := asNil_some hk6; clear hk6
  obtain ⟨rfl, hk8⟩ := asNil_some hk7; clear hk7
  refine ⟨Try.f54, Try.func54, ?_⟩
  rw [deque_Pop_eM]
  exact hk8
noncomputable def D55 (C : AFun) (n : Nat) (args : List V) (h : Hp) : Option (V × Hp) :=
asCons args fun v234 l235 =>
asAgg v234 fun l236 =>
asCons l236 fun v237 l238 =>
asInt .i64 v237 fun p0_0 =>
asCons l238 fun v239 l240 =>
asInt .i64 v239 fun p0_1 =>
asNil l240 (
asCons l235 fun v241 l242 =>
asInt .i64 v241 fun p1 =>
asNil l242 (
deque_Push C n p0_0 p0_1 p1 h))
theorem D55_ok (C : AFun) (n : Nat) : TabOK E C n (55, D55 C n) := by
  intro args h r hk0
  simp only [D55] at hk0
  obtain ⟨v234, l235, rfl, hk1⟩ := asCons_some hk0; clear hk0
  obtain ⟨l236, rfl, hk2⟩ := asAgg_some hk1; clear hk1
  obtain ⟨v237, l238, rfl, hk3⟩ := asCons_some hk2; clear hk2
  obtain ⟨p0_0, rfl, hk4⟩ := asInt_some hk3; clear hk3
  obtain ⟨v239, l240, rfl, hk5⟩ := asCons_some hk4; clear hk4
  obtain ⟨p0_1, rfl, hk6⟩ := asInt_some hk5; clear hk5
  obtain ⟨rfl, hk7⟩ := asNil_some hk6; clear hk6
  obtain ⟨v241, l242, rfl, hk8⟩ := asCons_some hk7; clear hk7
  obtain ⟨p1, rfl, hk9⟩ := asInt_some hk8; clear hk8
  obtain ⟨rfl, hk10⟩ := asNil_some hk9; clear hk9
  refine ⟨Try.f55, Try.func55, ?_⟩
  rw [deque_Push_eM]
  exact hk10
noncomputable def D56 (C : AFun) (n : Nat) (args : List V) (h : Hp) : Option (V × Hp) :=
asCons args fun v243 l244 =>
asAgg v243 fun l245 =>
asCons l245 fun v246 l247 =>
asInt .i64 v246 fun p0_0 =>
asCons l247 fun v248 l249 =>
asInt .i64 v248 fun p0_1 =>
asCons l249 fun v250 l251 =>
asInt .i64 v250 fun p0_2 =>
asCons l251 fun v252 l253 =>
asInt .i64 v252 fun p0_3 =>
asCons l253 fun v254 l255 =>
asInt .i64 v254 fun p0_4 =>
asCons l255 fun v256 l257 =>
asInt .i64 v256 fun p0_5 =>
asCons l257 fun v258 l259 =>
asInt .i64 v258 fun p0_6 =>
asCons l259 fun v260 l261 =>
asInt .i64 v260 fun p0_7 =>
asCons l261 fun v262 l263 =>
asInt .i64 v262 fun p0_8 =>
asCons l263 fun v264 l265 =>
asInt .i64 v264 fun p0_9 =>
asCons l265 fun v266 l267 =>
asInt .i64 v266 fun p0_10 =>
asCons l267 fun v268 l269 =>
asInt .i64 v268 fun p0_11 =>
asCons l269 fun v270 l271 =>
asInt .i64 v270 fun p0_12 =>
asCons l271 fun v272 l273 =>
asBool v272 fun p0_13 =>
asCons l273 fun v274 l275 =>
asInt .i64 v274 fun p0_14 =>
asCons l275 fun v276 l277 =>
asInt .i64 v276 fun p0_15 =>
asNil l277 (
asCons l244 fun v278 l279 =>
asInt .i64 v278 fun p1 =>
asCons l279 fun v280 l281 =>
asInt .i64 v280 fun p2 =>
asNil l281 (
deque_Op_over C n p0_0 p0_1 p0_2 p0_3 p0_4 p0_5 p0_6 p0_7 p0_8 p0_9 p0_10 p0_11 p0_12 p0_13 p0_14 p0_15 p1 p2 h))
theorem D56_ok (C : AFun) (n : Nat) : TabOK E C n (56, D56 C n) := by
  intro args h r hk0
  simp only [D56] at hk0
  obtain ⟨v243, l244, rfl, hk1⟩ := asCons_some hk0; clear hk0
  obtain ⟨l245, rfl, hk2⟩ := asAgg_some hk1; clear hk1
  obtain ⟨v246, l247, rfl, hk3⟩ := asCons_some hk2; clear hk2
  obtain ⟨p0_0, rfl, hk4⟩ := asInt_some hk3; clear hk3
  obtain ⟨v248, l249, rfl, hk5⟩ := asCons_some hk4; clear hk4
  obtain ⟨p0_1, rfl, hk6⟩ := asInt_some hk5; clear hk5
  obtain ⟨v250, l251, rfl, hk7⟩ := asCons_some hk6; clear hk6
  obtain ⟨p0_2, rfl, hk8⟩ := asInt_some hk7; clear hk7
  obtain ⟨v252, l253, rfl, hk9⟩ := asCons_some hk8; clear hk8
  obtain ⟨p0_3, rfl, hk10⟩ := asInt_some hk9; clear hk9
  obtain ⟨v254, l255, rfl, hk11⟩ := asCons_some hk10; clear hk10
  obtain ⟨p0_4, rfl, hk12⟩ := asInt_some hk11; clear hk11
  obtain ⟨v256, l257, rfl, hk13⟩ := asCons_some hk12; clear hk12
  obtain ⟨p0_5, rfl, hk14⟩ := asInt_some hk13; clear hk13
  obtain ⟨v258, l259, rfl, hk15⟩ := asCons_some hk14; clear hk14
  obtain ⟨p0_6, rfl, hk16⟩ := asInt_some hk15; clear hk15
  obtain ⟨v260, l261, rfl, hk17⟩ := asCons_some hk16; clear hk16
  obtain ⟨p0_7, rfl, hk18⟩ := asInt_some hk17; clear hk17
  obtain ⟨v262, l263, rfl, hk19⟩ := asCons_some hk18; clear hk18
  obtain ⟨p0_8, rfl, hk20⟩ := asInt_some hk19; clear hk19
  obtain ⟨v264, l265, rfl, hk21⟩ := asCons_some hk20; clear hk20
  obtain ⟨p0_9, rfl, hk22⟩ := asInt_some hk21; clear hk21
  obtain ⟨v266, l267, rfl, hk23⟩ := asCons_some hk22; clear hk22
  obtain ⟨p0_10, rfl, hk24⟩ := asInt_some hk23; clear hk23
  obtain ⟨v268, l269, rfl, hk25⟩ := asCons_some hk24; clear hk24
  obtain ⟨p0_11, rfl, hk26⟩ := asInt_some hk25; clear hk25
  obtain ⟨v270, l271, rfl, hk27⟩ := asCons_some hk26; clear hk26
  obtain ⟨p0_12, rfl, hk28⟩ := asInt_some hk27; clear hk27
  obtain ⟨v272, l273, rfl, hk29⟩ := asCons_some hk28; clear hk28
  obtain ⟨p0_13, rfl, hk30⟩ := asBool_some hk29; clear hk29
  obtain ⟨v274, l275, rfl, hk31⟩ := asCons_some hk30; clear hk30
  obtain ⟨p0_14, rfl, hk32⟩ := asInt_some hk31; clear hk31
  obtain ⟨v276, l277, rfl, hk33⟩ := asCons_some hk32; clear hk32
  obtain ⟨p0_15, rfl, hk34⟩ := asInt_some hk33; clear hk33
  obtain ⟨rfl, hk35⟩ := asNil_some hk34; clear hk34
  obtain ⟨v278, l279, rfl, hk36⟩ := asCons_some hk35; clear hk35
  obtain ⟨p1, rfl, hk37⟩ := asInt_some hk36; clear hk36
  obtain ⟨v280, l281, rfl, hk38⟩ := asCons_some hk37; clear hk37
  obtain ⟨p2, rfl, hk39⟩ := asInt_some hk38; clear hk38
  obtain ⟨rfl, hk40⟩ := asNil_some hk39; clear hk39
  refine ⟨Try.f56, Try.func56, ?_⟩
  rw [deque_Op_over_eM]
  exact hk40
noncomputable def D57 (C : AFun) (n : Nat) (args : List V) (h : Hp) : Option (V × Hp) :=
asCons args fun v282 l283 =>
asAgg v282 fun l284 =>
asCons l284 fun v285 l286 =>
asInt .i64 v285 fun p0_0 =>
asCons l286 fun v287 l288 =>
asInt .i64 v287 fun p0_1 =>
asCons l288 fun v289 l290 =>
asInt .i64 v289 fun p0_2 =>
asCons l290 fun v291 l292 =>
asInt .i64 v291 fun p0_3 =>
asCons l292 fun v293 l294 =>
asInt .i64 v293 fun p0_4 =>
asCons l294 fun v295 l296 =>
asInt .i64 v295 fun p0_5 =>
asCons l296 fun v297 l298 =>
asInt .i64 v297 fun p0_6 =>
asCons l298 fun v299 l300 =>
asInt .i64 v299 fun p0_7 =>
asCons l300 fun v301 l302 =>
asInt .i64 v301 fun p0_8 =>
asCons l302 fun v303 l304 =>
asInt .i64 v303 fun p0_9 =>
asCons l304 fun v305 l306 =>
asInt .i64 v305 fun p0_10 =>
asCons l306 fun v307 l308 =>
asInt .i64 v307 fun p0_11 =>
asCons l308 fun v309 l310 =>
asInt .i64 v309 fun p0_12 =>
asCons l310 fun v311 l312 =>
asBool v311 fun p0_13 =>
asCons l312 fun v313 l314 =>
asInt .i64 v313 fun p0_14 =>
asCons l314 fun v315 l316 =>
asInt .i64 v315 fun p0_15 =>
asNil l316 (
asCons l283 fun p1 l317 =>
asNil l317 (
deque_Op_access C n p0_0 p0_1 p0_2 p0_3 p0_4 p0_5 p0_6 p0_7 p0_8 p0_9 p0_10 p0_11 p0_12 p0_13 p0_14 p0_15 p1 h))
theorem D57_ok (C : AFun) (n : Nat) : TabOK E C n (57, D57 C n) := by
  intro args h r hk0
  simp only [D57] at hk0
  obtain ⟨v282, l283, rfl, hk1⟩ := asCons_some hk0; clear hk0
  obtain ⟨l284, rfl, hk2⟩ := asAgg_some hk1; clear hk1
  obtain ⟨v285, l286, rfl, hk3⟩ := asCons_some hk2; clear hk2
  obtain ⟨p0_0, rfl, hk4⟩ := asInt_some hk3; clear hk3
  obtain ⟨v287, l288, rfl, hk5⟩ := asCons_some hk4; clear hk4
  obtain ⟨p0_1, rfl, hk6⟩ := asInt_some hk5; clear hk5
  obtain ⟨v289, l290, rfl, hk7⟩ := asCons_some hk6; clear hk6
  obtain ⟨p0_2, rfl, hk8⟩ := asInt_some hk7; clear hk7
  obtain ⟨v291, l292, rfl, hk9⟩ := asCons_some hk8; clear hk8
  obtain ⟨p0_3, rfl, hk10⟩ := asInt_some hk9; clear hk9
  obtain ⟨v293, l294, rfl, hk11⟩ := asCons_some hk10; clear hk10
  obtain ⟨p0_4, rfl, hk12⟩ := asInt_some hk11; clear hk11
  obtain ⟨v295, l296, rfl, hk13⟩ := asCons_some hk12; clear hk12
  obtain ⟨p0_5, rfl, hk14⟩ := asInt_some hk13; clear hk13
  obtain ⟨v297, l298, rfl, hk15⟩ := asCons_some hk14; clear hk14
  obtain ⟨p0_6, rfl, hk16⟩ := asInt_some hk15; clear hk15
  obtain ⟨v299, l300, rfl, hk17⟩ := asCons_some hk16; clear hk16
  obtain ⟨p0_7, rfl, hk18⟩ := asInt_some hk17; clear hk17
  obtain ⟨v301, l302, rfl, hk19⟩ := asCons_some hk18; clear hk18
  obtain ⟨p0_8, rfl, hk20⟩ := asInt_some hk19; clear hk19
  obtain ⟨v303, l304, rfl, hk21⟩ := asCons_some hk20; clear hk20
  obtain ⟨p0_9, rfl, hk22⟩ := asInt_some hk21; clear hk21
  obtain ⟨v305, l306, rfl, hk23⟩ := asCons_some hk22; clear hk22
  obtain ⟨p0_10, rfl, hk24⟩ := asInt_some hk23; clear hk23
  obtain ⟨v307, l308, rfl, hk25⟩ := asCons_some hk24; clear hk24
  obtain ⟨p0_11, rfl, hk26⟩ := asInt_some hk25; clear hk25
  obtain ⟨v309, l310, rfl, hk27⟩ := asCons_some hk26; clear hk26
  obtain ⟨p0_12, rfl, hk28⟩ := asInt_some hk27; clear hk27
  obtain ⟨v311, l312, rfl, hk29⟩ := asCons_some hk28; clear hk28
  obtain ⟨p0_13, rfl, hk30⟩ := asBool_some hk29; clear hk29
  obtain ⟨v313, l314, rfl, hk31⟩ := asCons_some hk30; clear hk30
  obtain ⟨p0_14, rfl, hk32⟩ := asInt_some hk31; clear hk31
  obtain ⟨v315, l316, rfl, hk33⟩ := asCons_some hk32; clear hk32
  obtain ⟨p0_15, rfl, hk34⟩ := asInt_some hk33; clear hk33
  obtain ⟨rfl, hk35⟩ := asNil_some hk34; clear hk34
  obtain ⟨p1, l317, rfl, hk36⟩ := asCons_some hk35; clear hk35
  obtain ⟨rfl, hk37⟩ := asNil_some hk36; clear hk36
  refine ⟨Try.f57, Try.func57, ?_⟩
  rw [deque_Op_access_eM]
  exact hk37
noncomputable def D58 (C : AFun) (n : Nat) (args : List V) (h : Hp) : Option (V × Hp) :=
asCons args fun v318 l319 =>
asAgg v318 fun l320 =>
asCons l320 fun v321 l322 =>
asInt .i64 v321 fun p0_0 =>
asCons l322 fun v323 l324 =>
asInt .i64 v323 fun p0_1 =>
asCons l324 fun v325 l326 =>
asInt .i64 v325 fun p0_2 =>
asCons l326 fun v327 l328 =>
asInt .i64 v327 fun p0_3 =>
asCons l328 fun v329 l330 =>
asInt .i64 v329 fun p0_4 =>
asCons l330 fun v331 l332 =>
asInt .i64 v331 fun p0_5 =>
asCons l332 fun v333 l334 =>
asInt .i64 v333 fun p0_6 =>
asCons l334 fun v335 l336 =>
asInt .i64 v335 fun p0_7 =>
asCons l336 fun v337 l338 =>
asInt .i64 v337 fun p0_8 =>
asCons l338 fun v339 l340 =>
asInt .i64 v339 fun p0_9 =>
asCons l340 fun v341 l342 =>
asInt .i64 v341 fun p0_10 =>
asCons l342 fun v343 l344 =>
asInt .i64 v343 fun p0_11 =>
asCons l344 fun v345 l346 =>
asInt .i64 v345 fun p0_12 =>
asCons l346 fun v347 l348 =>
asBool v347 fun p0_13 =>
asCons l348 fun v349 l350 =>
asInt .i64 v349 fun p0_14 =>
asCons l350 fun v351 l352 =>
asInt .i64 v351 fun p0_15 =>
asNil l352 (
asCons l319 fun v353 l354 =>
asInt .i64 v353 fun p1 =>
asNil l354 (
deque_Op_pushed C n p0_0 p0_1 p0_2 p0_3 p0_4 p0_5 p0_6 p0_7 p0_8 p0_9 p0_10 p0_11 p0_12 p0_13 p0_14 p0_15 p1 h))
theorem D58_ok (C : AFun) (n : Nat) : TabOK E C n (58, D58 C n) := by
  intro args h r hk0
  simp only [D58] at hk0
  obtain ⟨v318, l319, rfl, hk1⟩ := asCons_some hk0; clear hk0
  obtain ⟨l320, rfl, hk2⟩ := asAgg_some hk1; clear hk1
  obtain ⟨v321, l322, rfl, hk3⟩ := asCons_some hk2; clear hk2
  obtain ⟨p0_0, rfl, hk4⟩ := asInt_some hk3; clear hk3
  obtain ⟨v323, l324, rfl, hk5⟩ := asCons_some hk4; clear hk4
  obtain ⟨p0_1, rfl, hk6⟩ := asInt_some hk5; clear hk5
  obtain ⟨v325, l326, rfl, hk7⟩ := asCons_some hk6; clear hk6
  obtain ⟨p0_2, rfl, hk8⟩ := asInt_some hk7; clear hk7
  obtain ⟨v327, l328, rfl, hk9⟩ := asCons_some hk8; clear hk8
  obtain ⟨p0_3, rfl, hk10⟩ := asInt_some hk9; clear hk9
  obtain ⟨v329, l330, rfl, hk11⟩ := asCons_some hk10; clear hk10
  obtain ⟨p0_4, rfl, hk12⟩ := asInt_some hk11; clear hk11
  obtain ⟨v331, l332, rfl, hk13⟩ := asCons_some hk12; clear hk12
  obtain ⟨p0_5, rfl, hk14⟩ := asInt_some hk13; clear hk13
  obtain ⟨v333, l334, rfl, hk15⟩ := asCons_some hk14; clear hk14
  obtain ⟨p0_6, rfl, hk16⟩ := asInt_some hk15; clear hk15
  obtain ⟨v335, l336, rfl, hk17⟩ := asCons_some hk16; clear hk16
  obtain ⟨p0_7, rfl, hk18⟩ := asInt_some hk17; clear hk17
  obtain ⟨v337, l338, rfl, hk19⟩ := asCons_some hk18; clear hk18
  obtain ⟨p0_8, rfl, hk20⟩ := asInt_some hk19; clear hk19
  obtain ⟨v339, l340, rfl, hk21⟩ := asCons_some hk20; clear hk20
  obtain ⟨p0_9, rfl, hk22⟩ := asInt_some hk21; clear hk21
  obtain ⟨v341, l342, rfl, hk23⟩ := asCons_some hk22; clear hk22
  obtain ⟨p0_10, rfl, hk24⟩ := asInt_some hk23; clear hk23
  obtain ⟨v343, l344, rfl, hk25⟩ := asCons_some hk24; clear hk24
  obtain ⟨p0_11, rfl, hk26⟩ := asInt_some hk25; clear hk25
  obtain ⟨v345, l346, rfl, hk27⟩ := asCons_some hk26; clear hk26
  obtain ⟨p0_12, rfl, hk28⟩ := asInt_some hk27; clear hk27
  obtain ⟨v347, l348, rfl, hk29⟩ := asCons_some hk28; clear hk28
  obtain ⟨p0_13, rfl, hk30⟩ := asBool_some hk29; clear hk29
  obtain ⟨v349, l350, rfl, hk31⟩ := asCons_some hk30; clear hk30
  obtain ⟨p0_14, rfl, hk32⟩ := asInt_some hk31; clear hk31
  obtain ⟨v351, l352, rfl, hk33⟩ := asCons_some hk32; clear hk32
  obtain ⟨p0_15, rfl, hk34⟩ := asInt_some hk33; clear hk33
  obtain ⟨rfl, hk35⟩ := asNil_some hk34; clear hk34
  obtain ⟨v353, l354, rfl, hk36⟩ := asCons_some hk35; clear hk35
  obtain ⟨p1, rfl, hk37⟩ := asInt_some hk36; clear hk36
  obtain ⟨rfl, hk38⟩ := asNil_some hk37; clear hk37
  refine ⟨Try.f58, Try.func58, ?_⟩
  rw [deque_Op_pushed_eM]
  exact hk38
noncomputable def D59 (C : AFun) (n : Nat) (args : List V) (h : Hp) : Option (V × Hp) :=
asCons args fun v355 l356 =>
asAgg v355 fun l357 =>
asCons l357 fun v358 l359 =>
asInt .i64 v358 fun p0_0 =>
asCons l359 fun v360 l361 =>
asInt .i64 v360 fun p0_1 =>
asCons l361 fun v362 l363 =>
asInt .i64 v362 fun p0_2 =>
asCons l363 fun v364 l365 =>
asInt .i64 v364 fun p0_3 =>
asCons l365 fun v366 l367 =>
asInt .i64 v366 fun p0_4 =>
asCons l367 fun v368 l369 =>
asInt .i64 v368 fun p0_5 =>
asCons l369 fun v370 l371 =>
asInt .i64 v370 fun p0_6 =>
asCons l371 fun v372 l373 =>
asInt .i64 v372 fun p0_7 =>
asCons l373 fun v374 l375 =>
asInt .i64 v374 fun p0_8 =>
asCons l375 fun v376 l377 =>
asInt .i64 v376 fun p0_9 =>
asCons l377 fun v378 l379 =>
asInt .i64 v378 fun p0_10 =>
asCons l379 fun v380 l381 =>
asInt .i64 v380 fun p0_11 =>
asCons l381 fun v382 l383 =>
asInt .i64 v382 fun p0_12 =>
asCons l383 fun v384 l385 =>
asBool v384 fun p0_13 =>
asCons l385 fun v386 l387 =>
asInt .i64 v386 fun p0_14 =>
asCons l387 fun v388 l389 =>
asInt .i64 v388 fun p0_15 =>
asNil l389 (
asCons l356 fun v390 l391 =>
asInt .i64 v390 fun p1 =>
asNil l391 (
deque_Op_popped C n p0_0 p0_1 p0_2 p0_3 p0_4 p0_5 p0_6 p0_7 p0_8 p0_9 p0_10 p0_11 p0_12 p0_13 p0_14 p0_15 p1 h))
theorem D59_ok (C : AFun) (n : Nat) : TabOK E C n (59, D59 C n) := by
  intro args h r hk0
  simp only [D59] at hk0
  obtain ⟨v355, l356, rfl, hk1⟩ := asCons_some hk0; clear hk0
  obtain ⟨l357, rfl, hk2⟩ := asAgg_some hk1; clear hk1
  obtain ⟨v358, l359, rfl, hk3⟩ := asCons_some hk2; clear hk2
  obtain ⟨p0_0, rfl, hk4⟩ := asInt_some hk3; clear hk3
  obtain ⟨v360, l361, rfl, hk5⟩ := asCons_some hk4; clear hk4
  obtain ⟨p0_1, rfl, hk6⟩ := asInt_some hk5; clear hk5
  obtain ⟨v362, l363, rfl, hk7⟩ := asCons_some hk6; clear hk6
  obtain ⟨p0_2, rfl, hk8⟩ := asInt_some hk7; clear hk7
  obtain ⟨v364, l365, rfl, hk9⟩ := asCons_some hk8; clear hk8
  obtain ⟨p0_3, rfl, hk10⟩ := asInt_some hk9; clear hk9
  obtain ⟨v366, l367, rfl, hk11⟩ := asCons_some hk10; clear hk10
  obtain ⟨p0_4, rfl, hk12⟩ := asInt_some hk11; clear hk11
  obtain ⟨v368, l369, rfl, hk13⟩ := asCons_some hk12; clear hk12
  obtain ⟨p0_5, rfl, hk14⟩ := asInt_some hk13; clear hk13
  obtain ⟨v370, l371, rfl, hk15⟩ := asCons_some hk14; clear hk14
  obtain ⟨p0_6, rfl, hk16⟩ := asInt_some hk15; clear hk15
  obtain ⟨v372, l373, rfl, hk17⟩ := asCons_some hk16; clear hk16
  obtain ⟨p0_7, rfl, hk18⟩ := asInt_some hk17; clear hk17
  obtain ⟨v374, l375, rfl, hk19⟩ := asCons_some hk18; clear hk18
  obtain ⟨p0_8, rfl, hk20⟩ := asInt_some hk19; clear hk19
  obtain ⟨v376, l377, rfl, hk21⟩ := asCons_some hk20; clear hk20
  obtain ⟨p0_9, rfl, hk22⟩ := asInt_some hk21; clear hk21
  obtain ⟨v378, l379, rfl, hk23⟩ := asCons_some hk22; clear hk22
  obtain ⟨p0_10, rfl, hk24⟩ := asInt_some hk23; clear hk23
  obtain ⟨v380, l381, rfl, hk25⟩ := asCons_some hk24; clear hk24
  obtain ⟨p0_11, rfl, hk26⟩ := asInt_some hk25; clear hk25
  obtain ⟨v382, l383, rfl, hk27⟩ := asCons_some hk26; clear hk26
  obtain ⟨p0_12, rfl, hk28⟩ := asInt_some hk27; clear hk27
  obtain ⟨v384, l385, rfl, hk29⟩ := asCons_some hk28; clear hk28
  obtain ⟨p0_13, rfl, hk30⟩ := asBool_some hk29; clear hk29
  obtain ⟨v386, l387, rfl, hk31⟩ := asCons_some hk30; clear hk30
  obtain ⟨p0_14, rfl, hk32⟩ := asInt_some hk31; clear hk31
  obtain ⟨v388, l389, rfl, hk33⟩ := asCons_some hk32; clear hk32
  obtain ⟨p0_15, rfl, hk34⟩ := asInt_some hk33; clear hk33
  obtain ⟨rfl, hk35⟩ := asNil_some hk34; clear hk34
  obtain ⟨v390, l391, rfl, hk36⟩ := asCons_some hk35; clear hk35
  obtain ⟨p1, rfl, hk37⟩ := asInt_some hk36; clear hk36
  obtain ⟨rfl, hk38⟩ := asNil_some hk37; clear hk37
  refine ⟨Try.f59, Try.func59, ?_⟩
  rw [deque_Op_popped_eM]
  exact hk38
noncomputable def D60 (C : AFun) (n : Nat) (args : List V) (h : Hp) : Option (V × Hp) :=
asCons args fun v392 l393 =>
asAgg v392 fun l394 =>
asCons l394 fun v395 l396 =>
asInt .i64 v395 fun p0_0 =>
asCons l396 fun v397 l398 =>
asInt .i64 v397 fun p0_1 =>
asCons l398 fun v399 l400 =>
asInt .i64 v399 fun p0_2 =>
asCons l400 fun v401 l402 =>
asInt .i64 v401 fun p0_3 =>
asCons l402 fun v403 l404 =>
asInt .i64 v403 fun p0_4 =>
asCons l404 fun v405 l406 =>
asInt .i64 v405 fun p0_5 =>
asCons l406 fun v407 l408 =>
asInt .i64 v407 fun p0_6 =>
asCons l408 fun v409 l410 =>
asInt .i64 v409 fun p0_7 =>
asCons l410 fun v411 l412 =>
asInt .i64 v411 fun p0_8 =>
asCons l412 fun v413 l414 =>
asInt .i64 v413 fun p0_9 =>
asCons l414 fun v415 l416 =>
asInt .i64 v415 fun p0_10 =>
asCons l416 fun v417 l418 =>
asInt .i64 v417 fun p0_11 =>
asCons l418 fun v419 l420 =>
asInt .i64 v419 fun p0_12 =>
asCons l420 fun v421 l422 =>
asBool v421 fun p0_13 =>
asCons l422 fun v423 l424 =>
asInt .i64 v423 fun p0_14 =>
asCons l424 fun v425 l426 =>
asInt .i64 v425 fun p0_15 =>
asNil l426 (
asCons l393 fun v427 l428 =>
asInt .i64 v427 fun p1 =>
asNil l428 (
deque_Op_stolen C n p0_0 p0_1 p0_2 p0_3 p0_4 p0_5 p0_6 p0_7 p0_8 p0_9 p0_10 p0_11 p0_12 p0_13 p0_14 p0_15 p1 h))
theorem D60_ok (C : AFun) (n : Nat) : TabOK E C n (60, D60 C n) := by
  intro args h r hk0
  simp only [D60] at hk0
  obtain ⟨v392, l393, rfl, hk1⟩ := asCons_some hk0; clear hk0
  obtain ⟨l394, rfl, hk2⟩ := asAgg_some hk1; clear hk1
  obtain ⟨v395, l396, rfl, hk3⟩ := asCons_some hk2; clear hk2
  obtain ⟨p0_0, rfl, hk4⟩ := asInt_some hk3; clear hk3
  obtain ⟨v397, l398, rfl, hk5⟩ := asCons_some hk4; clear hk4
  obtain ⟨p0_1, rfl, hk6⟩ := asInt_some hk5; clear hk5
  obtain ⟨v399, l400, rfl, hk7⟩ := asCons_some hk6; clear hk6
  obtain ⟨p0_2, rfl, hk8⟩ := asInt_some hk7; clear hk7
  obtain ⟨v401, l402, rfl, hk9⟩ := asCons_some hk8; clear hk8
  obtain ⟨p0_3, rfl, hk10⟩ := asInt_some hk9; clear hk9
  obtain ⟨v403, l404, rfl, hk11⟩ := asCons_some hk10; clear hk10
  obtain ⟨p0_4, rfl, hk12⟩ := asInt_some hk11; clear hk11
  obtain ⟨v405, l406, rfl, hk13⟩ := asCons_some hk12; clear hk12
  obtain ⟨p0_5, rfl, hk14⟩ := asInt_some hk13; clear hk13
  obtain ⟨v407, l408, rfl, hk15⟩ := asCons_some hk14; clear hk14
  obtain ⟨p0_6, rfl, hk16⟩ := asInt_some hk15; clear hk15
  obtain ⟨v409, l410, rfl, hk17⟩ := asCons_some hk16; clear hk16
  obtain ⟨p0_7, rfl, hk18⟩ := asInt_some hk17; clear hk17
  obtain ⟨v411, l412, rfl, hk19⟩ := asCons_some hk18; clear hk18
  obtain ⟨p0_8, rfl, hk20⟩ := asInt_some hk19; clear hk19
  obtain ⟨v413, l414, rfl, hk21⟩ := asCons_some hk20; clear hk20
  obtain ⟨p0_9, rfl, hk22⟩ := asInt_some hk21; clear hk21
  obtain ⟨v415, l416, rfl, hk23⟩ := asCons_some hk22; clear hk22
  obtain ⟨p0_10, rfl, hk24⟩ := asInt_some hk23; clear hk23
  obtain ⟨v417, l418, rfl, hk25⟩ := asCons_some hk24; clear hk24
  obtain ⟨p0_11, rfl, hk26⟩ := asInt_some hk25; clear hk25
  obtain ⟨v419, l420, rfl, hk27⟩ := asCons_some hk26; clear hk26
  obtain ⟨p0_12, rfl, hk28⟩ := asInt_some hk27; clear hk27
  obtain ⟨v421, l422, rfl, hk29⟩ := asCons_some hk28; clear hk28
  obtain ⟨p0_13, rfl, hk30⟩ := asBool_some hk29; clear hk29
  obtain ⟨v423, l424, rfl, hk31⟩ := asCons_some hk30; clear hk30
  obtain ⟨p0_14, rfl, hk32⟩ := asInt_some hk31; clear hk31
  obtain ⟨v425, l426, rfl, hk33⟩ := asCons_some hk32; clear hk32
  obtain ⟨p0_15, rfl, hk34⟩ := asInt_some hk33; clear hk33
  obtain ⟨rfl, hk35⟩ := asNil_some hk34; clear hk34
  obtain ⟨v427, l428, rfl, hk36⟩ := asCons_some hk35; clear hk35
  obtain ⟨p1, rfl, hk37⟩ := asInt_some hk36; clear hk36
  obtain ⟨rfl, hk38⟩ := asNil_some hk37; clear hk37
  refine ⟨Try.f60, Try.func60, ?_⟩
  rw [deque_Op_stolen_eM]
  exact hk38
noncomputable def D61 (C : AFun) (n : Nat) (args : List V) (h : Hp) : Option (V × Hp) :=
asCons args fun v429 l430 =>
asAgg v429 fun l431 =>
asCons l431 fun v432 l433 =>
asInt .i64 v432 fun p0_0 =>
asCons l433 fun v434 l435 =>
asInt .i64 v434 fun p0_1 =>
asCons l435 fun v436 l437 =>
asInt .i64 v436 fun p0_2 =>
asCons l437 fun v438 l439 =>
asInt .i64 v438 fun p0_3 =>
asCons l439 fun v440 l441 =>
asInt .i64 v440 fun p0_4 =>
asCons l441 fun v442 l443 =>
asInt .i64 v442 fun p0_5 =>
asCons l443 fun v444 l445 =>
asInt .i64 v444 fun p0_6 =>
asCons l445 fun v446 l447 =>
asInt .i64 v446 fun p0_7 =>
asCons l447 fun v448 l449 =>
asInt .i64 v448 fun p0_8 =>
asCons l449 fun v450 l451 =>
asInt .i64 v450 fun p0_9 =>
asCons l451 fun v452 l453 =>
asInt .i64 v452 fun p0_10 =>
asCons l453 fun v454 l455 =>
asInt .i64 v454 fun p0_11 =>
asCons l455 fun v456 l457 =>
asInt .i64 v456 fun p0_12 =>
asCons l457 fun v458 l459 =>
asBool v458 fun p0_13 =>
asCons l459 fun v460 l461 =>
asInt .i64 v460 fun p0_14 =>
asCons l461 fun v462 l463 =>
asInt .i64 v462 fun p0_15 =>
asNil l463 (
asCons l430 fun v464 l465 =>
asInt .i64 v464 fun p1 =>
asNil l465 (
deque_Op_looked C n p0_0 p0_1 p0_2 p0_3 p0_4 p0_5 p0_6 p0_7 p0_8 p0_9 p0_10 p0_11 p0_12 p0_13 p0_14 p0_15 p1 h))
theorem D61_ok (C : AFun) (n : Nat) : TabOK E C n (61, D61 C n) := by
  intro args h r hk0
  simp only [D61] at hk0
  obtain ⟨v429, l430, rfl, hk1⟩ := asCons_some hk0; clear hk0
  obtain ⟨l431, rfl, hk2⟩ := asAgg_some hk1; clear hk1
  obtain ⟨v432, l433, rfl, hk3⟩ := asCons_some hk2; clear hk2
  obtain ⟨p0_0, rfl, hk4⟩ := asInt_some hk3; clear hk3
  obtain ⟨v434, l435, rfl, hk5⟩ := asCons_some hk4; clear hk4
  obtain ⟨p0_1, rfl, hk6⟩ := asInt_some hk5; clear hk5
  obtain ⟨v436, l437, rfl, hk7⟩ := asCons_some hk6; clear hk6
  obtain ⟨p0_2, rfl, hk8⟩ := asInt_some hk7; clear hk7
  obtain ⟨v438, l439, rfl, hk9⟩ := asCons_some hk8; clear hk8
  obtain ⟨p0_3, rfl, hk10⟩ := asInt_some hk9; clear hk9
  obtain ⟨v440, l441, rfl, hk11⟩ := asCons_some hk10; clear hk10
  obtain ⟨p0_4, rfl, hk12⟩ := asInt_some hk11; clear hk11
  obtain ⟨v442, l443, rfl, hk13⟩ := asCons_some hk12; clear hk12
  obtain ⟨p0_5, rfl, hk14⟩ := asInt_some hk13; clear hk13
  obtain ⟨v444, l445, rfl, hk15⟩ := asCons_some hk14; clear hk14
  obtain ⟨p0_6, rfl, hk16⟩ := asInt_some hk15; clear hk15
  obtain ⟨v446, l447, rfl, hk17⟩ := asCons_some hk16; clear hk16
  obtain ⟨p0_7, rfl, hk18⟩ := asInt_some hk17; clear hk17
  obtain ⟨v448, l449, rfl, hk19⟩ := asCons_some hk18; clear hk18
  obtain ⟨p0_8, rfl, hk20⟩ := asInt_some hk19; clear hk19
  obtain ⟨v450, l451, rfl, hk21⟩ := asCons_some hk20; clear hk20
  obtain ⟨p0_9, rfl, hk22⟩ := asInt_some hk21; clear hk21
  obtain ⟨v452, l453, rfl, hk23⟩ := asCons_some hk22; clear hk22
  obtain ⟨p0_10, rfl, hk24⟩ := asInt_some hk23; clear hk23
  obtain ⟨v454, l455, rfl, hk25⟩ := asCons_some hk24; clear hk24
  obtain ⟨p0_11, rfl, hk26⟩ := asInt_some hk25; clear hk25
  obtain ⟨v456, l457, rfl, hk27⟩ := asCons_some hk26; clear hk26
  obtain ⟨p0_12, rfl, hk28⟩ := asInt_some hk27; clear hk27
  obtain ⟨v458, l459, rfl, hk29⟩ := asCons_some hk28; clear hk28
  obtain ⟨p0_13, rfl, hk30⟩ := asBool_some hk29; clear hk29
  obtain ⟨v460, l461, rfl, hk31⟩ := asCons_some hk30; clear hk30
  obtain ⟨p0_14, rfl, hk32⟩ := asInt_some hk31; clear hk31
  obtain ⟨v462, l463, rfl, hk33⟩ := asCons_some hk32; clear hk32
  obtain ⟨p0_15, rfl, hk34⟩ := asInt_some hk33; clear hk33
  obtain ⟨rfl, hk35⟩ := asNil_some hk34; clear hk34
  obtain ⟨v464, l465, rfl, hk36⟩ := asCons_some hk35; clear hk35
  obtain ⟨p1, rfl, hk37⟩ := asInt_some hk36; clear hk36
  obtain ⟨rfl, hk38⟩ := asNil_some hk37; clear hk37
  refine ⟨Try.f61, Try.func61, ?_⟩
  rw [deque_Op_looked_eM]
  exact hk38
noncomputable def D62 (C : AFun) (n : Nat) (args : List V) (h : Hp) : Option (V × Hp) :=
asCons args fun v466 l467 =>
asInt .u32 v466 fun p0 =>
asCons l467 fun v468 l469 =>
asInt .u32 v468 fun p1 =>
asNil l469 (
math_bits_Mul32 C n p0 p1 h)
theorem D62_ok (C : AFun) (n : Nat) : TabOK E C n (62, D62 C n) := by
  intro args h r hk0
  simp only [D62] at hk0
  obtain ⟨v466, l467, rfl, hk1⟩ := asCons_some hk0; clear hk0
  obtain ⟨p0, rfl, hk2⟩ := asInt_some hk1; clear hk1
  obtain ⟨v468, l469, rfl, hk3⟩ := asCons_some hk2; clear hk2
  obtain ⟨p1, rfl, hk4⟩ := asInt_some hk3; clear hk3
  obtain ⟨rfl, hk5⟩ := asNil_some hk4; clear hk4
  refine ⟨Try.f62, Try.func62, ?_⟩
  rw [math_bits_Mul32_eM]
  exact hk5
noncomputable def D63 (C : AFun) (n : Nat) (args : List V) (h : Hp) : Option (V × Hp) :=
asCons args fun v470 l471 =>
asInt .u64 v470 fun p0 =>
asCons l471 fun v472 l473 =>
asInt .u64 v472 fun p1 =>
asNil l473 (
math_bits_Mul64 C n p0 p1 h)
theorem D63_ok (C : AFun) (n : Nat) : TabOK E C n (63, D63 C n) := by
  intro args h r hk0
  simp only [D63] at hk0
  obtain ⟨v470, l471, rfl, hk1⟩ := asCons_some hk0; clear hk0
  obtain ⟨p0, rfl, hk2⟩ := asInt_some hk1; clear hk1
  obtain ⟨v472, l473, rfl, hk3⟩ := asCons_some hk2; clear hk2
  obtain ⟨p1, rfl, hk4⟩ := asInt_some hk3; clear hk3
  obtain ⟨rfl, hk5⟩ := asNil_some hk4; clear hk4
  refine ⟨Try.f63, Try.func63, ?_⟩
  rw [math_bits_Mul64_eM]
  exact hk5
noncomputable def D64 (C : AFun) (n : Nat) (args : List V) (h : Hp) : Option (V × Hp) :=
asCons args fun v474 l475 =>
asPtr v474 fun p0r p0g p0o =>
asCons l475 fun v476 l477 =>
asInt .i64 v476 fun p1 =>
asNil l477 (
cells_ledger_has C n p0r p0g p0o p1 h)
theorem D64_ok (C : AFun) (n : Nat) : TabOK E C n (64, D64 C n) := by
  intro args h r hk0
  simp only [D64] at hk0
  obtain ⟨v474, l475, rfl, hk1⟩ := asCons_some hk0; clear hk0
  obtain ⟨p0r, p0g, p0o, rfl, hk2⟩ := asPtr_some hk1; clear hk1
  obtain ⟨v476, l477, rfl, hk3⟩ := asCons_some hk2; clear hk2
  obtain ⟨p1, rfl, hk4⟩ := asInt_some hk3; clear hk3
  obtain ⟨rfl, hk5⟩ := asNil_some hk4; clear hk4
  refine ⟨Try.f64, Try.func64, ?_⟩
  rw [cells_ledger_has_eM]
  exact hk5
noncomputable def D65 (C : AFun) (n : Nat) (args : List V) (h : Hp) : Option (V × Hp) :=
asCons args fun v478 l479 =>
asInt .i64 v478 fun p0 =>
asCons l479 fun v480 l481 =>
asInt .i64 v480 fun p1 =>
asCons l481 fun v482 l483 =>
asAgg v482 fun l484 =>
asCons l484 fun v485 l486 =>
asInt .i64 v485 fun p2_0 =>
asCons l486 fun v487 l488 =>
asInt .i64 v487 fun p2_1 =>
asNil l488 (
asCons l483 fun v489 l490 =>
asInt .i64 v489 fun p3 =>
asNil l490 (
deque_begin C n p0 p1 p2_0 p2_1 p3 h))
theorem D65_ok (C : AFun) (n : Nat) : TabOK E C n (65, D65 C n) := by
  intro args h r hk0
  simp only [D65] at hk0
  obtain ⟨v478, l479, rfl, hk1⟩ := asCons_some hk0; clear hk0
  obtain ⟨p0, rfl, hk2⟩ := asInt_some hk1; clear hk1
  obtain ⟨v480, l481, rfl, hk3⟩ := asCons_some hk2; clear hk2
  obtain ⟨p1, rfl, hk4⟩ := asInt_some hk3; clear hk3
  obtain ⟨v482, l483, rfl, hk5⟩ := asCons_some hk4; clear hk4
  obtain ⟨l484, rfl, hk6⟩ := asAgg_some hk5; clear hk5
  obtain ⟨v485, l486, rfl, hk7⟩ := asCons_some hk6; clear hk6
  obtain ⟨p2_0, rfl, hk8⟩ := asInt_some hk7; clear hk7
  obtain ⟨v487, l488, rfl, hk9⟩ := asCons_some hk8; clear hk8
  obtain ⟨p2_1, rfl, hk10⟩ := asInt_some hk9; clear hk9
  obtain ⟨rfl, hk11⟩ := asNil_some hk10; clear hk10
  obtain ⟨v489, l490, rfl, hk12⟩ := asCons_some hk11; clear hk11
  obtain ⟨p3, rfl, hk13⟩ := asInt_some hk12; clear hk12
  obtain ⟨rfl, hk14⟩ := asNil_some hk13; clear hk13
  refine ⟨Try.f65, Try.func65, ?_⟩
  rw [deque_begin_eM]
  exact hk14
noncomputable def D66 (C : AFun) (n : Nat) (args : List V) (h : Hp) : Option (V × Hp) :=
asCons args fun v491 l492 =>
asAgg v491 fun l493 =>
asCons l493 fun v494 l495 =>
asInt .i64 v494 fun p0_0 =>
asCons l495 fun v496 l497 =>
asInt .i64 v496 fun p0_1 =>
asCons l497 fun v498 l499 =>
asInt .i64 v498 fun p0_2 =>
asCons l499 fun v500 l501 =>
asInt .i64 v500 fun p0_3 =>
asCons l501 fun v502 l503 =>
asInt .i64 v502 fun p0_4 =>
asCons l503 fun v504 l505 =>
asInt .i64 v504 fun p0_5 =>
asCons l505 fun v506 l507 =>
asInt .i64 v506 fun p0_6 =>
asCons l507 fun v508 l509 =>
asInt .i64 v508 fun p0_7 =>
asCons l509 fun v510 l511 =>
asInt .i64 v510 fun p0_8 =>
asCons l511 fun v512 l513 =>
asInt .i64 v512 fun p0_9 =>
asCons l513 fun v514 l515 =>
asInt .i64 v514 fun p0_10 =>
asCons l515 fun v516 l517 =>
asInt .i64 v516 fun p0_11 =>
asCons l517 fun v518 l519 =>
asInt .i64 v518 fun p0_12 =>
asCons l519 fun v520 l521 =>
asBool v520 fun p0_13 =>
asCons l521 fun v522 l523 =>
asInt .i64 v522 fun p0_14 =>
asCons l523 fun v524 l525 =>
asInt .i64 v524 fun p0_15 =>
asNil l525 (
asNil l492 (
deque_Op_next C n p0_0 p0_1 p0_2 p0_3 p0_4 p0_5 p0_6 p0_7 p0_8 p0_9 p0_10 p0_11 p0_12 p0_13 p0_14 p0_15 h))
theorem D66_ok (C : AFun) (n : Nat) : TabOK E C n (66, D66 C n) := by
  intro args h r hk0
  simp only [D66] at hk0
  obtain ⟨v491, l492, rfl, hk1⟩ := asCons_some hk0; clear hk0
  obtain ⟨l493, rfl, hk2⟩ := asAgg_some hk1; clear hk1
  obtain ⟨v494, l495, rfl, hk3⟩ := asCons_some hk2; clear hk2
  obtain ⟨p0_0, rfl, hk4⟩ := asInt_some hk3; clear hk3
  obtain ⟨v496, l497, rfl, hk5⟩ := asCons_some hk4; clear hk4
  obtain ⟨p0_1, rfl, hk6⟩ := asInt_some hk5; clear hk5
  obtain ⟨v498, l499, rfl, hk7⟩ := asCons_some hk6; clear hk6
  obtain ⟨p0_2, rfl, hk8⟩ := asInt_some hk7; clear hk7
  obtain ⟨v500, l501, rfl, hk9⟩ := asCons_some hk8; clear hk8
  obtain ⟨p0_3, rfl, hk10⟩ := asInt_some hk9; clear hk9
  obtain ⟨v502, l503, rfl, hk11⟩ := asCons_some hk10; clear hk10
  obtain ⟨p0_4, rfl, hk12⟩ := asInt_some hk11; clear hk11
  obtain ⟨v504, l505, rfl, hk13⟩ := asCons_some hk12; clear hk12
  obtain ⟨p0_5, rfl, hk14⟩ := asInt_some hk13; clear hk13
  obtain ⟨v506, l507, rfl, hk15⟩ := asCons_some hk14; clear hk14
  obtain ⟨p0_6, rfl, hk16⟩ := asInt_some hk15; clear hk15
  obtain ⟨v508, l509, rfl, hk17⟩ := asCons_some hk16; clear hk16
  obtain ⟨p0_7, rfl, hk18⟩ := asInt_some hk17; clear hk17
  obtain ⟨v510, l511, rfl, hk19⟩ := asCons_some hk18; clear hk18
  obtain ⟨p0_8, rfl, hk20⟩ := asInt_some hk19; clear hk19
  obtain ⟨v512, l513, rfl, hk21⟩ := asCons_some hk20; clear hk20
  obtain ⟨p0_9, rfl, hk22⟩ := asInt_some hk21; clear hk21
  obtain ⟨v514, l515, rfl, hk23⟩ := asCons_some hk22; clear hk22
  obtain ⟨p0_10, rfl, hk24⟩ := asInt_some hk23; clear hk23
  obtain ⟨v516, l517, rfl, hk25⟩ := asCons_some hk24; clear hk24
  obtain ⟨p0_11, rfl, hk26⟩ := asInt_some hk25; clear hk25
  obtain ⟨v518, l519, rfl, hk27⟩ := asCons_some hk26; clear hk26
  obtain ⟨p0_12, rfl, hk28⟩ := asInt_some hk27; clear hk27
  obtain ⟨v520, l521, rfl, hk29⟩ := asCons_some hk28; clear hk28
  obtain ⟨p0_13, rfl, hk30⟩ := asBool_some hk29; clear hk29
  obtain ⟨v522, l523, rfl, hk31⟩ := asCons_some hk30; clear hk30
  obtain ⟨p0_14, rfl, hk32⟩ := asInt_some hk31; clear hk31
  obtain ⟨v524, l525, rfl, hk33⟩ := asCons_some hk32; clear hk32
  obtain ⟨p0_15, rfl, hk34⟩ := asInt_some hk33; clear hk33
  obtain ⟨rfl, hk35⟩ := asNil_some hk34; clear hk34
  obtain ⟨rfl, hk36⟩ := asNil_some hk35; clear hk35
  refine ⟨Try.f66, Try.func66, ?_⟩
  rw [deque_Op_next_eM]
  exact hk36
noncomputable def D82 (C : AFun) (n : Nat) (args : List V) (h : Hp) : Option (V × Hp) :=
asCons args fun v526 l527 =>
asPtr v526 fun p0r p0g p0o =>
asCons l527 fun v528 l529 =>
asInt .i64 v528 fun p1 =>
asCons l529 fun v530 l531 =>
asInt .i64 v530 fun p2 =>
asCons l531 fun v532 l533 =>
asInt .i64 v532 fun p3 =>
asNil l533 (
cells_Arena_CAS C n p0r p0g p0o p1 p2 p3 h)
theorem D82_ok (C : AFun) (n : Nat) : TabOK E C n (82, D82 C n) := by
  intro args h r hk0
  simp only [D82] at hk0
  obtain ⟨v526, l527, rfl, hk1⟩ := asCons_some hk0; clear hk0
  obtain ⟨p0r, p0g, p0o, rfl, hk2⟩ := asPtr_some hk1; clear hk1
  obtain ⟨v528, l529, rfl, hk3⟩ := asCons_some hk2; clear hk2
  obtain ⟨p1, rfl, hk4⟩ := asInt_some hk3; clear hk3
  obtain ⟨v530, l531, rfl, hk5⟩ := asCons_some hk4; clear hk4
  obtain ⟨p2, rfl, hk6⟩ := asInt_some hk5; clear hk5
  obtain ⟨v532, l533, rfl, hk7⟩ := asCons_some hk6; clear hk6
  obtain ⟨p3, rfl, hk8⟩ := asInt_some hk7; clear hk7
  obtain ⟨rfl, hk9⟩ := asNil_some hk8; clear hk8
  refine ⟨Try.f82, Try.func82, ?_⟩
  rw [cells_Arena_CAS_eM]
  exact hk9
noncomputable def D83 (C : AFun) (n : Nat) (args : List V) (h : Hp) : Option (V × Hp) :=
asCons args fun v534 l535 =>
asPtr v534 fun p0r p0g p0o =>
asCons l535 fun v536 l537 =>
asInt .i64 v536 fun p1 =>
asNil l537 (
cells_Arena_Load C n p0r p0g p0o p1 h)
theorem D83_ok (C : AFun) (n : Nat) : TabOK E C n (83, D83 C n) := by
  intro args h r hk0
  simp only [D83] at hk0
  obtain ⟨v534, l535, rfl, hk1⟩ := asCons_some hk0; clear hk0
  obtain ⟨p0r, p0g, p0o, rfl, hk2⟩ := asPtr_some hk1; clear hk1
  obtain ⟨v536, l537, rfl, hk3⟩ := asCons_some hk2; clear hk2
  obtain ⟨p1, rfl, hk4⟩ := asInt_some hk3; clear hk3
  obtain ⟨rfl, hk5⟩ := asNil_some hk4; clear hk4
  refine ⟨Try.f83, Try.func83, ?_⟩
  rw [cells_Arena_Load_eM]
  exact hk5
noncomputable def D84 (C : AFun) (n : Nat) (args : List V) (h : Hp) : Option (V × Hp) :=
asCons args fun v538 l539 =>
asPtr v538 fun p0r p0g p0o =>
asNil l539 (
cells_Arena_Mark C n p0r p0g p0o h)
theorem D84_ok (C : AFun) (n : Nat) : TabOK E C n (84, D84 C n) := by
  intro args h r hk0
  simp only [D84] at hk0
  obtain ⟨v538, l539, rfl, hk1⟩ := asCons_some hk0; clear hk0
  obtain ⟨p0r, p0g, p0o, rfl, hk2⟩ := asPtr_some hk1; clear hk1
  obtain ⟨rfl, hk3⟩ := asNil_some hk2; clear hk2
  refine ⟨Try.f84, Try.func84, ?_⟩
  rw [cells_Arena_Mark_eM]
  exact hk3
noncomputable def D85 (C : AFun) (n : Nat) (args : List V) (h : Hp) : Option (V × Hp) :=
asCons args fun v540 l541 =>
asPtr v540 fun p0r p0g p0o =>
asCons l541 fun v542 l543 =>
asInt .i64 v542 fun p1 =>
asNil l543 (
cells_Arena_Reserve C n p0r p0g p0o p1 h)
theorem D85_ok (C : AFun) (n : Nat) : TabOK E C n (85, D85 C n) := by
  intro args h r hk0
  simp only [D85] at hk0
  obtain ⟨v540, l541, rfl, hk1⟩ := asCons_some hk0; clear hk0
  obtain ⟨p0r, p0g, p0o, rfl, hk2⟩ := asPtr_some hk1; clear hk1
  obtain ⟨v542, l543, rfl, hk3⟩ := asCons_some hk2; clear hk2
  obtain ⟨p1, rfl, hk4⟩ := asInt_some hk3; clear hk3
  obtain ⟨rfl, hk5⟩ := asNil_some hk4; clear hk4
  refine ⟨Try.f85, Try.func85, ?_⟩
  rw [cells_Arena_Reserve_eM]
  exact hk5
noncomputable def D86 (C : AFun) (n : Nat) (args : List V) (h : Hp) : Option (V × Hp) :=
asCons args fun v544 l545 =>
asPtr v544 fun p0r p0g p0o =>
asCons l545 fun v546 l547 =>
asInt .i64 v546 fun p1 =>
asNil l547 (
cells_ledger_refuse C n p0r p0g p0o p1 h)
theorem D86_ok (C : AFun) (n : Nat) : TabOK E C n (86, D86 C n) := by
  intro args h r hk0
  simp only [D86] at hk0
  obtain ⟨v544, l545, rfl, hk1⟩ := asCons_some hk0; clear hk0
  obtain ⟨p0r, p0g, p0o, rfl, hk2⟩ := asPtr_some hk1; clear hk1
  obtain ⟨v546, l547, rfl, hk3⟩ := asCons_some hk2; clear hk2
  obtain ⟨p1, rfl, hk4⟩ := asInt_some hk3; clear hk3
  obtain ⟨rfl, hk5⟩ := asNil_some hk4; clear hk4
  refine ⟨Try.f86, Try.func86, ?_⟩
  rw [cells_ledger_refuse_eM]
  exact hk5
noncomputable def D87 (C : AFun) (n : Nat) (args : List V) (h : Hp) : Option (V × Hp) :=
asCons args fun v548 l549 =>
asPtr v548 fun p0r p0g p0o =>
asCons l549 fun v550 l551 =>
asInt .i64 v550 fun p1 =>
asNil l551 (
cells_ledger_take C n p0r p0g p0o p1 h)
theorem D87_ok (C : AFun) (n : Nat) : TabOK E C n (87, D87 C n) := by
  intro args h r hk0
  simp only [D87] at hk0
  obtain ⟨v548, l549, rfl, hk1⟩ := asCons_some hk0; clear hk0
  obtain ⟨p0r, p0g, p0o, rfl, hk2⟩ := asPtr_some hk1; clear hk1
  obtain ⟨v550, l551, rfl, hk3⟩ := asCons_some hk2; clear hk2
  obtain ⟨p1, rfl, hk4⟩ := asInt_some hk3; clear hk3
  obtain ⟨rfl, hk5⟩ := asNil_some hk4; clear hk4
  refine ⟨Try.f87, Try.func87, ?_⟩
  rw [cells_ledger_take_eM]
  exact hk5
noncomputable def D88 (C : AFun) (n : Nat) (args : List V) (h : Hp) : Option (V × Hp) :=
asCons args fun v552 l553 =>
asAgg v552 fun l554 =>
asCons l554 fun p0_0 l555 =>
asCons l555 fun v556 l557 =>
asInt .i64 v556 fun p0_1 =>
asNil l557 (
asNil l553 (
buffers_place_cells C n p0_0 p0_1 h))
theorem D88_ok (C : AFun) (n : Nat) : TabOK E C n (88, D88 C n) := by
  intro args h r hk0
  simp only [D88] at hk0
  obtain ⟨v552, l553, rfl, hk1⟩ := asCons_some hk0; clear hk0
  obtain ⟨l554, rfl, hk2⟩ := asAgg_some hk1; clear hk1
  obtain ⟨p0_0, l555, rfl, hk3⟩ := asCons_some hk2; clear hk2
  obtain ⟨v556, l557, rfl, hk4⟩ := asCons_some hk3; clear hk3
  obtain ⟨p0_1, rfl, hk5⟩ := asInt_some hk4; clear hk4
  obtain ⟨rfl, hk6⟩ := asNil_some hk5; clear hk5
  obtain ⟨rfl, hk7⟩ := asNil_some hk6; clear hk6
  refine ⟨Try.f88, Try.func88, ?_⟩
  rw [buffers_place_cells_eM]
  exact hk7
noncomputable def D89 (C : AFun) (n : Nat) (args : List V) (h : Hp) : Option (V × Hp) :=
asCons args fun v558 l559 =>
asPtr v558 fun p0r p0g p0o =>
asCons l559 fun v560 l561 =>
asInt .i64 v560 fun p1 =>
asCons l561 fun v562 l563 =>
asInt .i64 v562 fun p2 =>
asCons l563 fun v564 l565 =>
asInt .i64 v564 fun p3 =>
asNil l565 (
buffers_View_CAS C n p0r p0g p0o p1 p2 p3 h)
theorem D89_ok (C : AFun) (n : Nat) : TabOK E C n (89, D89 C n) := by
  intro args h r hk0
  simp only [D89] at hk0
  obtain ⟨v558, l559, rfl, hk1⟩ := asCons_some hk0; clear hk0
  obtain ⟨p0r, p0g, p0o, rfl, hk2⟩ := asPtr_some hk1; clear hk1
  obtain ⟨v560, l561, rfl, hk3⟩ := asCons_some hk2; clear hk2
  obtain ⟨p1, rfl, hk4⟩ := asInt_some hk3; clear hk3
  obtain ⟨v562, l563, rfl, hk5⟩ := asCons_some hk4; clear hk4
  obtain ⟨p2, rfl, hk6⟩ := asInt_some hk5; clear hk5
  obtain ⟨v564, l565, rfl, hk7⟩ := asCons_some hk6; clear hk6
  obtain ⟨p3, rfl, hk8⟩ := asInt_some hk7; clear hk7
  obtain ⟨rfl, hk9⟩ := asNil_some hk8; clear hk8
  refine ⟨Try.f89, Try.func89, ?_⟩
  rw [buffers_View_CAS_eM]
  exact hk9
noncomputable def D90 (C : AFun) (n : Nat) (args : List V) (h : Hp) : Option (V × Hp) :=
asCons args fun v566 l567 =>
asPtr v566 fun p0r p0g p0o =>
asNil l567 (
buffers_View_Fence C n p0r p0g p0o h)
theorem D90_ok (C : AFun) (n : Nat) : TabOK E C n (90, D90 C n) := by
  intro args h r hk0
  simp only [D90] at hk0
  obtain ⟨v566, l567, rfl, hk1⟩ := asCons_some hk0; clear hk0
  obtain ⟨p0r, p0g, p0o, rfl, hk2⟩ := asPtr_some hk1; clear hk1
  obtain ⟨rfl, hk3⟩ := asNil_some hk2; clear hk2
  refine ⟨Try.f90, Try.func90, ?_⟩
  rw [buffers_View_Fence_eM]
  exact hk3
noncomputable def D91 (C : AFun) (n : Nat) (args : List V) (h : Hp) : Option (V × Hp) :=
asCons args fun v568 l569 =>
asPtr v568 fun p0r p0g p0o =>
asCons l569 fun v570 l571 =>
asInt .i64 v570 fun p1 =>
asNil l571 (
buffers_View_Load C n p0r p0g p0o p1 h)
theorem D91_ok (C : AFun) (n : Nat) : TabOK E C n (91, D91 C n) := by
  intro args h r hk0
  simp only [D91] at hk0
  obtain ⟨v568, l569, rfl, hk1⟩ := asCons_some hk0; clear hk0
  obtain ⟨p0r, p0g, p0o, rfl, hk2⟩ := asPtr_some hk1; clear hk1
  obtain ⟨v570, l571, rfl, hk3⟩ := asCons_some hk2; clear hk2
  obtain ⟨p1, rfl, hk4⟩ := asInt_some hk3; clear hk3
  obtain ⟨rfl, hk5⟩ := asNil_some hk4; clear hk4
  refine ⟨Try.f91, Try.func91, ?_⟩
  rw [buffers_View_Load_eM]
  rw [buffers_View_Load_eL0 C n n]
  exact hk5
noncomputable def D92 (C : AFun) (n : Nat) (args : List V) (h : Hp) : Option (V × Hp) :=
asCons args fun v572 l573 =>
asPtr v572 fun p0r p0g p0o =>
asCons l573 fun v574 l575 =>
asInt .i64 v574 fun p1 =>
asNil l575 (
buffers_View_Reserve C n p0r p0g p0o p1 h)
theorem D92_ok (C : AFun) (n : Nat) : TabOK E C n (92, D92 C n) := by
  intro args h r hk0
  simp only [D92] at hk0
  obtain ⟨v572, l573, rfl, hk1⟩ := asCons_some hk0; clear hk0
  obtain ⟨p0r, p0g, p0o, rfl, hk2⟩ := asPtr_some hk1; clear hk1
  obtain ⟨v574, l575, rfl, hk3⟩ := asCons_some hk2; clear hk2
  obtain ⟨p1, rfl, hk4⟩ := asInt_some hk3; clear hk3
  obtain ⟨rfl, hk5⟩ := asNil_some hk4; clear hk4
  refine ⟨Try.f92, Try.func92, ?_⟩
  rw [buffers_View_Reserve_eM]
  exact hk5
noncomputable def D93 (C : AFun) (n : Nat) (args : List V) (h : Hp) : Option (V × Hp) :=
asCons args fun v576 l577 =>
asPtr v576 fun p0r p0g p0o =>
asCons l577 fun v578 l579 =>
asInt .i64 v578 fun p1 =>
asCons l579 fun v580 l581 =>
asInt .i64 v580 fun p2 =>
asNil l581 (
buffers_View_Store C n p0r p0g p0o p1 p2 h)
theorem D93_ok (C : AFun) (n : Nat) : TabOK E C n (93, D93 C n) := by
  intro args h r hk0
  simp only [D93] at hk0
  obtain ⟨v576, l577, rfl, hk1⟩ := asCons_some hk0; clear hk0
  obtain ⟨p0r, p0g, p0o, rfl, hk2⟩ := asPtr_some hk1; clear hk1
  obtain ⟨v578, l579, rfl, hk3⟩ := asCons_some hk2; clear hk2
  obtain ⟨p1, rfl, hk4⟩ := asInt_some hk3; clear hk3
  obtain ⟨v580, l581, rfl, hk5⟩ := asCons_some hk4; clear hk4
  obtain ⟨p2, rfl, hk6⟩ := asInt_some hk5; clear hk5
  obtain ⟨rfl, hk7⟩ := asNil_some hk6; clear hk6
  refine ⟨Try.f93, Try.func93, ?_⟩
  rw [buffers_View_Store_eM]
  exact hk7
noncomputable def D94 (C : AFun) (n : Nat) (args : List V) (h : Hp) : Option (V × Hp) :=
asCons args fun v582 l583 =>
asPtr v582 fun p0r p0g p0o =>
asCons l583 fun v584 l585 =>
asInt .i64 v584 fun p1 =>
asNil l585 (
buffers_View_none C n p0r p0g p0o p1 h)
theorem D94_ok (C : AFun) (n : Nat) : TabOK E C n (94, D94 C n) := by
  intro args h r hk0
  simp only [D94] at hk0
  obtain ⟨v582, l583, rfl, hk1⟩ := asCons_some hk0; clear hk0
  obtain ⟨p0r, p0g, p0o, rfl, hk2⟩ := asPtr_some hk1; clear hk1
  obtain ⟨v584, l585, rfl, hk3⟩ := asCons_some hk2; clear hk2
  obtain ⟨p1, rfl, hk4⟩ := asInt_some hk3; clear hk3
  obtain ⟨rfl, hk5⟩ := asNil_some hk4; clear hk4
  refine ⟨Try.f94, Try.func94, ?_⟩
  rw [buffers_View_none_eM]
  exact hk5
noncomputable def D95 (C : AFun) (n : Nat) (args : List V) (h : Hp) : Option (V × Hp) :=
asCons args fun v586 l587 =>
asPtr v586 fun p0r p0g p0o =>
asNil l587 (
cells_Arena_Size C n p0r p0g p0o h)
theorem D95_ok (C : AFun) (n : Nat) : TabOK E C n (95, D95 C n) := by
  intro args h r hk0
  simp only [D95] at hk0
  obtain ⟨v586, l587, rfl, hk1⟩ := asCons_some hk0; clear hk0
  obtain ⟨p0r, p0g, p0o, rfl, hk2⟩ := asPtr_some hk1; clear hk1
  obtain ⟨rfl, hk3⟩ := asNil_some hk2; clear hk2
  refine ⟨Try.f95, Try.func95, ?_⟩
  rw [cells_Arena_Size_eM]
  exact hk3
noncomputable def D96 (C : AFun) (n : Nat) (args : List V) (h : Hp) : Option (V × Hp) :=
asCons args fun v588 l589 =>
asPtr v588 fun p0r p0g p0o =>
asNil l589 (
cells_ledger_Mark C n p0r p0g p0o h)
theorem D96_ok (C : AFun) (n : Nat) : TabOK E C n (96, D96 C n) := by
  intro args h r hk0
  simp only [D96] at hk0
  obtain ⟨v588, l589, rfl, hk1⟩ := asCons_some hk0; clear hk0
  obtain ⟨p0r, p0g, p0o, rfl, hk2⟩ := asPtr_some hk1; clear hk1
  obtain ⟨rfl, hk3⟩ := asNil_some hk2; clear hk2
  refine ⟨Try.f96, Try.func96, ?_⟩
  rw [cells_ledger_Mark_eM]
  exact hk3
noncomputable def D97 (C : AFun) (n : Nat) (args : List V) (h : Hp) : Option (V × Hp) :=
asCons args fun v590 l591 =>
asPtr v590 fun p0r p0g p0o =>
asNil l591 (
cells_ledger_Size C n p0r p0g p0o h)
theorem D97_ok (C : AFun) (n : Nat) : TabOK E C n (97, D97 C n) := by
  intro args h r hk0
  simp only [D97] at hk0
  obtain ⟨v590, l591, rfl, hk1⟩ := asCons_some hk0; clear hk0
  obtain ⟨p0r, p0g, p0o, rfl, hk2⟩ := asPtr_some hk1; clear hk1
  obtain ⟨rfl, hk3⟩ := asNil_some hk2; clear hk2
  refine ⟨Try.f97, Try.func97, ?_⟩
  rw [cells_ledger_Size_eM]
  exact hk3
noncomputable def D99 (C : AFun) (n : Nat) (args : List V) (h : Hp) : Option (V × Hp) :=
asCons args fun v592 l593 =>
asAgg v592 fun l594 =>
asCons l594 fun p0_0 l595 =>
asNil l595 (
asCons l593 fun v596 l597 =>
asInt .i64 v596 fun p1 =>
asCons l597 fun v598 l599 =>
asInt .i64 v598 fun p2 =>
asNil l599 (
buffers_fencedView_Store C n p0_0 p1 p2 h))
theorem D99_ok (C : AFun) (n : Nat) : TabOK E C n (99, D99 C n) := by
  intro args h r hk0
  simp only [D99] at hk0
  obtain ⟨v592, l593, rfl, hk1⟩ := asCons_some hk0; clear hk0
  obtain ⟨l594, rfl, hk2⟩ := asAgg_some hk1; clear hk1
  obtain ⟨p0_0, l595, rfl, hk3⟩ := asCons_some hk2; clear hk2
  obtain ⟨rfl, hk4⟩ := asNil_some hk3; clear hk3
  obtain ⟨v596, l597, rfl, hk5⟩ := asCons_some hk4; clear hk4
  obtain ⟨p1, rfl, hk6⟩ := asInt_some hk5; clear hk5
  obtain ⟨v598, l599, rfl, hk7⟩ := asCons_some hk6; clear hk6
  obtain ⟨p2, rfl, hk8⟩ := asInt_some hk7; clear hk7
  obtain ⟨rfl, hk9⟩ := asNil_some hk8; clear hk8
  refine ⟨Try.f99, Try.func99, ?_⟩
  rw [buffers_fencedView_Store_eM]
  exact hk9
noncomputable def tab (C : AFun) (n : Nat) : Tab := [(4, D4 C n), (8, D8 C n), (10, D10 C n), (11, D11 C n), (12, D12 C n), (16, D16 C n), (17, D17 C n), (18, D18 C n), (19, D19 C n), (20, D20 C n), (21, D21 C n), (22, D22 C n), (23, D23 C n), (24, D24 C n), (25, D25 C n), (26, D26 C n), (27, D27 C n), (28, D28 C n), (29, D29 C n), (30, D30 C n), (32, D32 C n), (35, D35 C n), (36, D36 C n), (37, D37 C n), (38, D38 C n), (39, D39 C n), (40, D40 C n), (41, D41 C n), (42, D42 C n), (43, D43 C n), (44, D44 C n), (45, D45 C n), (46, D46 C n), (47, D47 C n), (49, D49 C n), (50, D50 C n), (51, D51 C n), (52, D52 C n), (53, D53 C n), (54, D54 C n), (55, D55 C n), (56, D56 C n), (57, D57 C n), (58, D58 C n), (59, D59 C n), (60, D60 C n), (61, D61 C n), (62, D62 C n), (63, D63 C n), (64, D64 C n), (65, D65 C n), (66, D66 C n), (82, D82 C n), (83, D83 C n), (84, D84 C n), (85, D85 C n), (86, D86 C n), (87, D87 C n), (88, D88 C n), (89, D89 C n), (90, D90 C n), (91, D91 C n), (92, D92 C n), (93, D93 C n), (94, D94 C n), (95, D95 C n), (96, D96 C n), (97, D97 C n), (99, D99 C n)]
theorem tab_ok (C : AFun) (n : Nat) : ∀ e ∈ tab C n, TabOK E C n e := by
  simp only [tab, List.forall_mem_cons]
  exact ⟨D4_ok C n, D8_ok C n, D10_ok C n, D11_ok C n, D12_ok C n, D16_ok C n, D17_ok C n, D18_ok C n, D19_ok C n, D20_ok C n, D21_ok C n, D22_ok C n, D23_ok C n, D24_ok C n, D25_ok C n, D26_ok C n, D27_ok C n, D28_ok C n, D29_ok C n, D30_ok C n, D32_ok C n, D35_ok C n, D36_ok C n, D37_ok C n, D38_ok C n, D39_ok C n, D40_ok C n, D41_ok C n, D42_ok C n, D43_ok C n, D44_ok C n, D45_ok C n, D46_ok C n, D47_ok C n, D49_ok C n, D50_ok C n, D51_ok C n, D52_ok C n, D53_ok C n, D54_ok C n, D55_ok C n, D56_ok C n, D57_ok C n, D58_ok C n, D59_ok C n, D60_ok C n, D61_ok C n, D62_ok C n, D63_ok C n, D64_ok C n, D65_ok C n, D66_ok C n, D82_ok C n, D83_ok C n, D84_ok C n, D85_ok C n, D86_ok C n, D87_ok C n, D88_ok C n, D89_ok C n, D90_ok C n, D91_ok C n, D92_ok C n, D93_ok C n, D94_ok C n, D95_ok C n, D96_ok C n, D97_ok C n, D99_ok C n, by simp⟩
theorem progOK : ProgOK E := progB_spec (by kernel_rfl)
end Go.Ev.Ytkgfoiinbnhpbaa
