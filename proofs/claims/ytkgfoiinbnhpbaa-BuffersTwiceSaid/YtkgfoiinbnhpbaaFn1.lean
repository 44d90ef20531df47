/- What the evaluator makes of the functions of the program, and the equations (printed by wip/emit/gentab.py). -/
import Derived.Test.YtkgfoiinbnhpbaaEvEnv
import Derived.KernelRfl
set_option linter.unusedVariables false
namespace Go.Ev.Ytkgfoiinbnhpbaa
open Go Go.Ev Go.Proofs
set_option maxRecDepth 100000
/-! slices.Concat[[]int,int] (28) -/
noncomputable def slices_Concat_int_int_B1 (C : AFun) (n : Nat) (rec1 : V → V → Int → Int → Hp → Option (V × Hp)) (t6 t25 : V) (t26 t27 : Int) (h : Hp) : Option (V × Hp) :=
cond (decide (t27 < t26)) (
idxS 1 t25 (.int .i64 t27) fun r10 g11 o12 =>
ldH h r10 g11 o12 false 1 fun v13 =>
srcS 1 h v13 fun l14 n15 =>
appendK 1 8 t6 l14 n15 h fun v16 h17 =>
rec1 v16 t25 t26 (wr .i64 (t27 + 1)) h17) (
some (t6, h))
noncomputable def slices_Concat_int_int_L1 (C : AFun) (n : Nat) : Nat → V → V → Int → Int → Hp → Option (V × Hp)
  | 0, _, _, _, _, _ => none
  | m + 1, t6, t25, t26, t27, h => slices_Concat_int_int_B1 C n (slices_Concat_int_int_L1 C n m) t6 t25 t26 t27 h
noncomputable def slices_Concat_int_int_B0 (C : AFun) (n : Nat) (loop1 : V → V → Int → Int → Hp → Option (V × Hp)) (rec0 : V → Int → V → Int → Int → Hp → Option (V × Hp)) (t0 : V) (t3 : Int) (t9 : V) (t10 t11 : Int) (h : Hp) : Option (V × Hp) :=
cond (decide (t11 < t10)) (
idxS 1 t9 (.int .i64 t11) fun r2 g3 o4 =>
ldH h r2 g3 o4 false 1 fun v5 =>
lenS v5 fun n6 =>
cond (decide ((wr .i64 (t3 + n6)) < 0)) (
none) (
rec0 t0 (wr .i64 (t3 + n6)) t9 t10 (wr .i64 (t11 + 1)) h)) (
callB (C 45 [.nils, .int .i64 t3] h) fun v7 h8 =>
lenS t0 fun n9 =>
loop1 v7 t0 n9 0 h8)
noncomputable def slices_Concat_int_int_L0 (C : AFun) (n : Nat) : Nat → V → Int → V → Int → Int → Hp → Option (V × Hp)
  | 0, _, _, _, _, _, _ => none
  | m + 1, t0, t3, t9, t10, t11, h => slices_Concat_int_int_B0 C n (slices_Concat_int_int_L1 C n n) (slices_Concat_int_int_L0 C n m) t0 t3 t9 t10 t11 h
noncomputable def slices_Concat_int_int_M (C : AFun) (n : Nat) (loop0 : V → Int → V → Int → Int → Hp → Option (V × Hp)) (p0 : V) (h : Hp) : Option (V × Hp) :=
lenS p0 fun n1 =>
loop0 p0 0 p0 n1 0 h
noncomputable def slices_Concat_int_int (C : AFun) (n : Nat) (p0 : V) (h : Hp) : Option (V × Hp) := slices_Concat_int_int_M C n (slices_Concat_int_int_L0 C n n) p0 h
def slices_Concat_int_int_F0 (t0 : V) (t3 : Int) (t9 : V) (t10 t11 : Int) : Fr := { tmps := [.v t0, .bot, .bot, .v (.int .i64 t3), .bot, .bot, .bot, .bot, .bot, .v t9, .v (.int .i64 t10), .v (.int .i64 t11), .bot, .bot, .bot, .bot, .bot, .bot, .bot, .bot, .bot, .bot, .bot, .bot, .bot, .bot, .bot, .bot, .bot, .bot, .bot, .bot, .bot, .bot, .bot, .bot], vars := fun _ => none }
def slices_Concat_int_int_F1 (t6 t25 : V) (t26 t27 : Int) : Fr := { tmps := [.bot, .bot, .bot, .bot, .bot, .bot, .v t6, .bot, .bot, .bot, .bot, .bot, .bot, .bot, .bot, .bot, .bot, .bot, .bot, .bot, .bot, .bot, .bot, .bot, .bot, .v t25, .v (.int .i64 t26), .v (.int .i64 t27), .bot, .bot, .bot, .bot, .bot, .bot, .bot, .bot], vars := fun _ => none }
theorem slices_Concat_int_int_eB1 (C : AFun) (n : Nat) (rec1 : Fr → Hp → Option (V × Hp)) (t6 t25 : V) (t26 t27 : Int) (h : Hp) :
    codeK E C 28 n (cIn (cIn (cSeqR (cSeqL (cSeqR (cSeqR (cSeqR (cSeqR (cOf Try.f28))))))))) (slices_Concat_int_int_F1 t6 t25 t26 t27) h (kLoop (maskAt E 28 11) rec1 (kBlock 2 (kSeq E C 28 n (cSeqR (cSeqR (cSeqR (cSeqR (cSeqR (cOf Try.f28)))))) (kTop prog Try.f28)))) = slices_Concat_int_int_B1 C n (fun t6 t25 t26 t27 h => rec1 (slices_Concat_int_int_F1 t6 t25 t26 t27) h) t6 t25 t26 t27 h := by kernel_rfl
theorem slices_Concat_int_int_eL1 (C : AFun) (n : Nat) : ∀ m, (fun t6 t25 t26 t27 h => loopK (codeK E C 28 n (cIn (cIn (cSeqR (cSeqL (cSeqR (cSeqR (cSeqR (cSeqR (cOf Try.f28)))))))))) (maskAt E 28 11) m (slices_Concat_int_int_F1 t6 t25 t26 t27) h (kBlock 2 (kSeq E C 28 n (cSeqR (cSeqR (cSeqR (cSeqR (cSeqR (cOf Try.f28)))))) (kTop prog Try.f28)))) = slices_Concat_int_int_L1 C n m
  | 0 => rfl
  | m + 1 => by
    funext t6 t25 t26 t27 h
    have ih := slices_Concat_int_int_eL1 C n m
    have e := slices_Concat_int_int_eB1 C n (fun F h => loopK (codeK E C 28 n (cIn (cIn (cSeqR (cSeqL (cSeqR (cSeqR (cSeqR (cSeqR (cOf Try.f28)))))))))) (maskAt E 28 11) m F h (kBlock 2 (kSeq E C 28 n (cSeqR (cSeqR (cSeqR (cSeqR (cSeqR (cOf Try.f28)))))) (kTop prog Try.f28)))) t6 t25 t26 t27 h
    refine (loopK_succ _ _ _ _ _ _).trans (Eq.trans e ?_)
    simp only [ih]
    rfl
theorem slices_Concat_int_int_eB0 (C : AFun) (n : Nat) (rec0 : Fr → Hp → Option (V × Hp)) (t0 : V) (t3 : Int) (t9 : V) (t10 t11 : Int) (h : Hp) :
    codeK E C 28 n (cIn (cIn (cSeqR (cSeqL (cSeqR (cSeqR (cOf Try.f28))))))) (slices_Concat_int_int_F0 t0 t3 t9 t10 t11) h (kLoop (maskAt E 28 3) rec0 (kBlock 0 (kSeq E C 28 n (cSeqR (cSeqR (cSeqR (cOf Try.f28)))) (kTop prog Try.f28)))) = slices_Concat_int_int_B0 C n (fun t6 t25 t26 t27 h => loopK (codeK E C 28 n (cIn (cIn (cSeqR (cSeqL (cSeqR (cSeqR (cSeqR (cSeqR (cOf Try.f28)))))))))) (maskAt E 28 11) n (slices_Concat_int_int_F1 t6 t25 t26 t27) h (kBlock 2 (kSeq E C 28 n (cSeqR (cSeqR (cSeqR (cSeqR (cSeqR (cOf Try.f28)))))) (kTop prog Try.f28)))) (fun t0 t3 t9 t10 t11 h => rec0 (slices_Concat_int_int_F0 t0 t3 t9 t10 t11) h) t0 t3 t9 t10 t11 h := by kernel_rfl
theorem slices_Concat_int_int_eL0 (C : AFun) (n : Nat) : ∀ m, (fun t0 t3 t9 t10 t11 h => loopK (codeK E C 28 n (cIn (cIn (cSeqR (cSeqL (cSeqR (cSeqR (cOf Try.f28)))))))) (maskAt E 28 3) m (slices_Concat_int_int_F0 t0 t3 t9 t10 t11) h (kBlock 0 (kSeq E C 28 n (cSeqR (cSeqR (cSeqR (cOf Try.f28)))) (kTop prog Try.f28)))) = slices_Concat_int_int_L0 C n m
  | 0 => rfl
  | m + 1 => by
    funext t0 t3 t9 t10 t11 h
    have ih := slices_Concat_int_int_eL0 C n m
    have e := slices_Concat_int_int_eB0 C n (fun F h => loopK (codeK E C 28 n (cIn (cIn (cSeqR (cSeqL (cSeqR (cSeqR (cOf Try.f28)))))))) (maskAt E 28 3) m F h (kBlock 0 (kSeq E C 28 n (cSeqR (cSeqR (cSeqR (cOf Try.f28)))) (kTop prog Try.f28)))) t0 t3 t9 t10 t11 h
    have e1 := slices_Concat_int_int_eL1 C n n
    refine (loopK_succ _ _ _ _ _ _).trans (Eq.trans e ?_)
    rw [e1]
    simp only [ih]
    rfl
theorem slices_Concat_int_int_eM (C : AFun) (n : Nat) (p0 : V) (h : Hp) : bodyK E C 28 n Try.f28 [p0] h = slices_Concat_int_int_M C n (fun t0 t3 t9 t10 t11 h => loopK (codeK E C 28 n (cIn (cIn (cSeqR (cSeqL (cSeqR (cSeqR (cOf Try.f28)))))))) (maskAt E 28 3) n (slices_Concat_int_int_F0 t0 t3 t9 t10 t11) h (kBlock 0 (kSeq E C 28 n (cSeqR (cSeqR (cSeqR (cOf Try.f28)))) (kTop prog Try.f28)))) p0 h := by kernel_rfl
theorem slices_Concat_int_int_eq (n : Nat) (p0 : V) (h : Hp) : ev E (n + 1) 28 [p0] h = slices_Concat_int_int (ev E n) n p0 h := by
  rw [ev_body rfl Try.func28, slices_Concat_int_int_eM]
  rw [slices_Concat_int_int_eL0 (ev E n) n n]
  rfl
/-! slices.Repeat[[]int,int] (29) -/
noncomputable def slices_Repeat_int_int_B0 (C : AFun) (n : Nat) (rec0 : V → Int → Hp → Option (V × Hp)) (t7 : V) (t8 : Int) (h : Hp) : Option (V × Hp) :=
lenS t7 fun n19 =>
cond (decide (t8 < n19)) (
slcS 1 t7 (some (.v (.int .i64 t8))) none fun v20 =>
slcS 1 t7 none (some (.v (.int .i64 t8))) fun v21 =>
srcS 1 h v21 fun l22 n23 =>
copyK 1 v20 l22 n23 h fun v24 h25 =>
binK prog .add 3 false (.int .i64 t8) v24 fun v26 =>
asInt .i64 v26 fun i27 =>
rec0 t7 i27 h25) (
some (t7, h))
noncomputable def slices_Repeat_int_int_L0 (C : AFun) (n : Nat) : Nat → V → Int → Hp → Option (V × Hp)
  | 0, _, _, _ => none
  | m + 1, t7, t8, h => slices_Repeat_int_int_B0 C n (slices_Repeat_int_int_L0 C n m) t7 t8 h
noncomputable def slices_Repeat_int_int_M (C : AFun) (n : Nat) (loop0 : V → Int → Hp → Option (V × Hp)) (p0 : V) (p1 : Int) (h : Hp) : Option (V × Hp) :=
cond (decide (p1 < 0)) (
none) (
lenS p0 fun n1 =>
callB (C 46 [.int .u64 (wr .u64 n1), .int .u64 (wr .u64 p1)] h) fun v2 h3 =>
asTup v2 fun l4 =>
asCons l4 fun v5 l6 =>
asInt .u64 v5 fun i7 =>
asCons l6 fun v8 l9 =>
asInt .u64 v8 fun i10 =>
asNil l9 (
cond (decide (i7 > 0)) (
none) (
cond (decide (i10 > 9223372036854775807)) (
none) (
mkS [.int .i64 0] 1 8 (wr .i64 i10) (wr .i64 i10) h3 fun r11 n12 h13 =>
srcS 1 h13 p0 fun l14 n15 =>
copyK 1 (.sl r11 n12 1 0 n12) l14 n15 h13 fun v16 h17 =>
asInt .i64 v16 fun i18 =>
loop0 (.sl r11 n12 1 0 n12) i18 h17))))
noncomputable def slices_Repeat_int_int (C : AFun) (n : Nat) (p0 : V) (p1 : Int) (h : Hp) : Option (V × Hp) := slices_Repeat_int_int_M C n (slices_Repeat_int_int_L0 C n n) p0 p1 h
def slices_Repeat_int_int_F0 (t7 : V) (t8 : Int) : Fr := { tmps := [.bot, .bot, .bot, .bot, .bot, .bot, .bot, .v t7, .v (.int .i64 t8), .bot, .bot, .bot, .bot, .bot, .bot, .bot, .bot, .bot, .bot, .bot, .bot, .bot, .bot, .bot, .bot, .bot, .bot, .bot, .bot, .bot, .bot, .bot, .bot, .bot, .bot, .bot, .bot, .bot, .bot, .bot, .bot, .bot, .bot, .bot, .bot, .bot, .bot, .bot], vars := fun _ => none }
theorem slices_Repeat_int_int_eB0 (C : AFun) (n : Nat) (rec0 : Fr → Hp → Option (V × Hp)) (t7 : V) (t8 : Int) (h : Hp) :
    codeK E C 29 n (cIn (cIn (cSeqL (cSeqR (cSeqR (cSeqR (cSeqR (cSeqR (cSeqR (cOf Try.f29)))))))))) (slices_Repeat_int_int_F0 t7 t8) h (kLoop (maskAt E 29 8) rec0 (kBlock 0 (kSeq E C 29 n (cSeqR (cSeqR (cSeqR (cSeqR (cSeqR (cSeqR (cSeqR (cOf Try.f29)))))))) (kTop prog Try.f29)))) = slices_Repeat_int_int_B0 C n (fun t7 t8 h => rec0 (slices_Repeat_int_int_F0 t7 t8) h) t7 t8 h := by kernel_rfl
theorem slices_Repeat_int_int_eL0 (C : AFun) (n : Nat) : ∀ m, (fun t7 t8 h => loopK (codeK E C 29 n (cIn (cIn (cSeqL (cSeqR (cSeqR (cSeqR (cSeqR (cSeqR (cSeqR (cOf Try.f29))))))))))) (maskAt E 29 8) m (slices_Repeat_int_int_F0 t7 t8) h (kBlock 0 (kSeq E C 29 n (cSeqR (cSeqR (cSeqR (cSeqR (cSeqR (cSeqR (cSeqR (cOf Try.f29)))))))) (kTop prog Try.f29)))) = slices_Repeat_int_int_L0 C n m
  | 0 => rfl
  | m + 1 => by
    funext t7 t8 h
    have ih := slices_Repeat_int_int_eL0 C n m
    have e := slices_Repeat_int_int_eB0 C n (fun F h => loopK (codeK E C 29 n (cIn (cIn (cSeqL (cSeqR (cSeqR (cSeqR (cSeqR (cSeqR (cSeqR (cOf Try.f29))))))))))) (maskAt E 29 8) m F h (kBlock 0 (kSeq E C 29 n (cSeqR (cSeqR (cSeqR (cSeqR (cSeqR (cSeqR (cSeqR (cOf Try.f29)))))))) (kTop prog Try.f29)))) t7 t8 h
    refine (loopK_succ _ _ _ _ _ _).trans (Eq.trans e ?_)
    simp only [ih]
    rfl
theorem slices_Repeat_int_int_eM (C : AFun) (n : Nat) (p0 : V) (p1 : Int) (h : Hp) : bodyK E C 29 n Try.f29 [p0, .int .i64 p1] h = slices_Repeat_int_int_M C n (fun t7 t8 h => loopK (codeK E C 29 n (cIn (cIn (cSeqL (cSeqR (cSeqR (cSeqR (cSeqR (cSeqR (cSeqR (cOf Try.f29))))))))))) (maskAt E 29 8) n (slices_Repeat_int_int_F0 t7 t8) h (kBlock 0 (kSeq E C 29 n (cSeqR (cSeqR (cSeqR (cSeqR (cSeqR (cSeqR (cSeqR (cOf Try.f29)))))))) (kTop prog Try.f29)))) p0 p1 h := by kernel_rfl
theorem slices_Repeat_int_int_eq (n : Nat) (p0 : V) (p1 : Int) (h : Hp) : ev E (n + 1) 29 [p0, .int .i64 p1] h = slices_Repeat_int_int (ev E n) n p0 p1 h := by
  rw [ev_body rfl Try.func29, slices_Repeat_int_int_eM]
  rw [slices_Repeat_int_int_eL0 (ev E n) n n]
  rfl
/-! plunder/plunderlaw21.sameInts (30) -/
noncomputable def plunderlaw21_sameInts_B0 (C : AFun) (n : Nat) (rec0 : V → V → Int → Hp → Option (V × Hp)) (t0 t1 : V) (t5 : Int) (h : Hp) : Option (V × Hp) :=
lenS t0 fun n3 =>
cond (decide (t5 < n3)) (
idxS 1 t0 (.int .i64 t5) fun r4 g5 o6 =>
ldH h r4 g5 o6 false 1 fun v7 =>
asInt .i64 v7 fun i8 =>
idxS 1 t1 (.int .i64 t5) fun r9 g10 o11 =>
ldH h r9 g10 o11 false 1 fun v12 =>
asInt .i64 v12 fun i13 =>
cond (i8 != i13) (
some (.bool false, h)) (
rec0 t0 t1 (wr .i64 (t5 + 1)) h)) (
some (.bool true, h))
noncomputable def plunderlaw21_sameInts_L0 (C : AFun) (n : Nat) : Nat → V → V → Int → Hp → Option (V × Hp)
  | 0, _, _, _, _ => none
  | m + 1, t0, t1, t5, h => plunderlaw21_sameInts_B0 C n (plunderlaw21_sameInts_L0 C n m) t0 t1 t5 h
noncomputable def plunderlaw21_sameInts_M (C : AFun) (n : Nat) (loop0 : V → V → Int → Hp → Option (V × Hp)) (p0 p1 : V) (h : Hp) : Option (V × Hp) :=
lenS p0 fun n1 =>
lenS p1 fun n2 =>
cond (n1 != n2) (
some (.bool false, h)) (
loop0 p0 p1 0 h)
noncomputable def plunderlaw21_sameInts (C : AFun) (n : Nat) (p0 p1 : V) (h : Hp) : Option (V × Hp) := plunderlaw21_sameInts_M C n (plunderlaw21_sameInts_L0 C n n) p0 p1 h
def plunderlaw21_sameInts_F0 (t0 t1 : V) (t5 : Int) : Fr := { tmps := [.v t0, .v t1, .bot, .bot, .bot, .v (.int .i64 t5), .bot, .bot, .bot, .bot, .bot, .bot, .bot, .bot, .bot, .bot, .bot, .bot, .bot, .bot, .bot, .bot, .bot, .bot, .bot, .bot], vars := fun _ => none }
theorem plunderlaw21_sameInts_eB0 (C : AFun) (n : Nat) (rec0 : Fr → Hp → Option (V × Hp)) (t0 t1 : V) (t5 : Int) (h : Hp) :
    codeK E C 30 n (cIn (cIn (cSeqR (cSeqL (cSeqR (cSeqR (cOf Try.f30))))))) (plunderlaw21_sameInts_F0 t0 t1 t5) h (kLoop (maskAt E 30 4) rec0 (kBlock 0 (kSeq E C 30 n (cSeqR (cSeqR (cSeqR (cOf Try.f30)))) (kTop prog Try.f30)))) = plunderlaw21_sameInts_B0 C n (fun t0 t1 t5 h => rec0 (plunderlaw21_sameInts_F0 t0 t1 t5) h) t0 t1 t5 h := by kernel_rfl
theorem plunderlaw21_sameInts_eL0 (C : AFun) (n : Nat) : ∀ m, (fun t0 t1 t5 h => loopK (codeK E C 30 n (cIn (cIn (cSeqR (cSeqL (cSeqR (cSeqR (cOf Try.f30)))))))) (maskAt E 30 4) m (plunderlaw21_sameInts_F0 t0 t1 t5) h (kBlock 0 (kSeq E C 30 n (cSeqR (cSeqR (cSeqR (cOf Try.f30)))) (kTop prog Try.f30)))) = plunderlaw21_sameInts_L0 C n m
  | 0 => rfl
  | m + 1 => by
    funext t0 t1 t5 h
    have ih := plunderlaw21_sameInts_eL0 C n m
    have e := plunderlaw21_sameInts_eB0 C n (fun F h => loopK (codeK E C 30 n (cIn (cIn (cSeqR (cSeqL (cSeqR (cSeqR (cOf Try.f30)))))))) (maskAt E 30 4) m F h (kBlock 0 (kSeq E C 30 n (cSeqR (cSeqR (cSeqR (cOf Try.f30)))) (kTop prog Try.f30)))) t0 t1 t5 h
    refine (loopK_succ _ _ _ _ _ _).trans (Eq.trans e ?_)
    simp only [ih]
    rfl
theorem plunderlaw21_sameInts_eM (C : AFun) (n : Nat) (p0 p1 : V) (h : Hp) : bodyK E C 30 n Try.f30 [p0, p1] h = plunderlaw21_sameInts_M C n (fun t0 t1 t5 h => loopK (codeK E C 30 n (cIn (cIn (cSeqR (cSeqL (cSeqR (cSeqR (cOf Try.f30)))))))) (maskAt E 30 4) n (plunderlaw21_sameInts_F0 t0 t1 t5) h (kBlock 0 (kSeq E C 30 n (cSeqR (cSeqR (cSeqR (cOf Try.f30)))) (kTop prog Try.f30)))) p0 p1 h := by kernel_rfl
theorem plunderlaw21_sameInts_eq (n : Nat) (p0 p1 : V) (h : Hp) : ev E (n + 1) 30 [p0, p1] h = plunderlaw21_sameInts (ev E n) n p0 p1 h := by
  rw [ev_body rfl Try.func30, plunderlaw21_sameInts_eM]
  rw [plunderlaw21_sameInts_eL0 (ev E n) n n]
  rfl
/-! plunder/cells.New (32) -/
noncomputable def cells_New_M (C : AFun) (n : Nat) (p0 : Int) (h : Hp) : Option (V × Hp) :=
callB (C 47 [.int .i64 p0] h) fun v1 h2 =>
asBool v1 fun b3 =>
cond (!b3) (
some (.tup [.nilp, .int .i64 3], h2)) (
newB h2 { cells := [.int .i64 p0, .int .i64 0, .nils, .nils, .int .i64 0, .bool false], size := 6, bytes := 80, clean := 0, ro := false } fun r4 h5 =>
some (.tup [.ptr r4 1 0, .int .i64 0], h5))
noncomputable def cells_New (C : AFun) (n : Nat) (p0 : Int) (h : Hp) : Option (V × Hp) := cells_New_M C n p0 h
theorem cells_New_eM (C : AFun) (n : Nat) (p0 : Int) (h : Hp) : bodyK E C 32 n Try.f32 [.int .i64 p0] h = cells_New_M C n p0 h := by kernel_rfl
theorem cells_New_eq (n : Nat) (p0 : Int) (h : Hp) : ev E (n + 1) 32 [.int .i64 p0] h = cells_New (ev E n) n p0 h := by
  rw [ev_body rfl Try.func32, cells_New_eM]
  rfl
/-! (*plunder/cells.Arena).Log (35) -/
noncomputable def cells_Arena_Log_M (C : AFun) (n : Nat) (p0r p0g p0o : Nat) (h : Hp) : Option (V × Hp) :=
ldH h p0r p0g (p0o + 3) false 1 fun v1 =>
lenS v1 fun n2 =>
mkS [.int .i64 0, .int .i64 0, .int .i64 0, .int .i64 0, .int .i64 0, .bool false] 6 48 n2 n2 h fun r3 n4 h5 =>
ldH h5 p0r p0g (p0o + 3) false 1 fun v6 =>
srcS 6 h5 v6 fun l7 n8 =>
copyK 6 (.sl r3 n4 6 0 n4) l7 n8 h5 fun v9 h10 =>
some (.sl r3 n4 6 0 n4, h10)
noncomputable def cells_Arena_Log (C : AFun) (n : Nat) (p0r p0g p0o : Nat) (h : Hp) : Option (V × Hp) := cells_Arena_Log_M C n p0r p0g p0o h
theorem cells_Arena_Log_eM (C : AFun) (n : Nat) (p0r p0g p0o : Nat) (h : Hp) : bodyK E C 35 n Try.f35 [.ptr p0r p0g p0o] h = cells_Arena_Log_M C n p0r p0g p0o h := by kernel_rfl
theorem cells_Arena_Log_eq (n : Nat) (p0r p0g p0o : Nat) (h : Hp) : ev E (n + 1) 35 [.ptr p0r p0g p0o] h = cells_Arena_Log (ev E n) n p0r p0g p0o h := by
  rw [ev_body rfl Try.func35, cells_Arena_Log_eM]
  rfl
/-! plunder/deque.capsOK (36) -/
noncomputable def deque_capsOK_M (C : AFun) (n : Nat) (p0 p1 : Int) (h : Hp) : Option (V × Hp) :=
cond (decide ((1 : Int) ≤ p0)) (
cond (decide (p0 ≤ p1)) (
some (.bool (decide (p1 ≤ 4096)), h)) (
some (.bool false, h))) (
some (.bool false, h))
noncomputable def deque_capsOK (C : AFun) (n : Nat) (p0 p1 : Int) (h : Hp) : Option (V × Hp) := deque_capsOK_M C n p0 p1 h
theorem deque_capsOK_eM (C : AFun) (n : Nat) (p0 p1 : Int) (h : Hp) : bodyK E C 36 n Try.f36 [.int .i64 p0, .int .i64 p1] h = deque_capsOK_M C n p0 p1 h := by kernel_rfl
theorem deque_capsOK_eq (n : Nat) (p0 p1 : Int) (h : Hp) : ev E (n + 1) 36 [.int .i64 p0, .int .i64 p1] h = deque_capsOK (ev E n) n p0 p1 h := by
  rw [ev_body rfl Try.func36, deque_capsOK_eM]
  rfl
/-! (*plunder/buffers.Memory).has (37) -/
noncomputable def buffers_Memory_has_M (C : AFun) (n : Nat) (p0r p0g p0o : Nat) (p1 : Int) (h : Hp) : Option (V × Hp) :=
cond (decide (p1 ≥ 0)) (
ldH h p0r p0g (p0o + 1) false 1 fun v1 =>
asInt .i64 v1 fun i2 =>
some (.bool (decide (p1 < i2)), h)) (
some (.bool false, h))
noncomputable def buffers_Memory_has (C : AFun) (n : Nat) (p0r p0g p0o : Nat) (p1 : Int) (h : Hp) : Option (V × Hp) := buffers_Memory_has_M C n p0r p0g p0o p1 h
theorem buffers_Memory_has_eM (C : AFun) (n : Nat) (p0r p0g p0o : Nat) (p1 : Int) (h : Hp) : bodyK E C 37 n Try.f37 [.ptr p0r p0g p0o, .int .i64 p1] h = buffers_Memory_has_M C n p0r p0g p0o p1 h := by kernel_rfl
theorem buffers_Memory_has_eq (n : Nat) (p0r p0g p0o : Nat) (p1 : Int) (h : Hp) : ev E (n + 1) 37 [.ptr p0r p0g p0o, .int .i64 p1] h = buffers_Memory_has (ev E n) n p0r p0g p0o p1 h := by
  rw [ev_body rfl Try.func37, buffers_Memory_has_eM]
  rfl
/-! (*plunder/cells.Arena).Who (38) -/
noncomputable def cells_Arena_Who_M (C : AFun) (n : Nat) (p0r p0g p0o : Nat) (p1 : Int) (h : Hp) : Option (V × Hp) :=
stH h p0r p0g (p0o + 4) 1 (.int .i64 p1) fun h1 =>
some (.tup [], h1)
noncomputable def cells_Arena_Who (C : AFun) (n : Nat) (p0r p0g p0o : Nat) (p1 : Int) (h : Hp) : Option (V × Hp) := cells_Arena_Who_M C n p0r p0g p0o p1 h
theorem cells_Arena_Who_eM (C : AFun) (n : Nat) (p0r p0g p0o : Nat) (p1 : Int) (h : Hp) : bodyK E C 38 n Try.f38 [.ptr p0r p0g p0o, .int .i64 p1] h = cells_Arena_Who_M C n p0r p0g p0o p1 h := by kernel_rfl
theorem cells_Arena_Who_eq (n : Nat) (p0r p0g p0o : Nat) (p1 : Int) (h : Hp) : ev E (n + 1) 38 [.ptr p0r p0g p0o, .int .i64 p1] h = cells_Arena_Who (ev E n) n p0r p0g p0o p1 h := by
  rw [ev_body rfl Try.func38, cells_Arena_Who_eM]
  rfl
/-! (*plunder/cells.Arena).Store (39) -/
noncomputable def cells_Arena_Store_M (C : AFun) (n : Nat) (p0r p0g p0o : Nat) (p1 p2 : Int) (h : Hp) : Option (V × Hp) :=
callB (C 51 [.ptr p0r p0g p0o, .int .i64 p1] h) fun v1 h2 =>
asBool v1 fun b3 =>
cond b3 (
some (.int .i64 20, h2)) (
ldH h2 p0r p0g (p0o + 2) false 1 fun v4 =>
idxS 1 v4 (.int .i64 p1) fun r5 g6 o7 =>
stH h2 r5 g6 o7 1 (.int .i64 p2) fun h8 =>
callB (C 52 [.ptr p0r p0g p0o, .int .i64 1, .int .i64 p1, .int .i64 p2, .int .i64 0, .bool true] h8) fun v9 h10 =>
some (.int .i64 0, h10))
noncomputable def cells_Arena_Store (C : AFun) (n : Nat) (p0r p0g p0o : Nat) (p1 p2 : Int) (h : Hp) : Option (V × Hp) := cells_Arena_Store_M C n p0r p0g p0o p1 p2 h
theorem cells_Arena_Store_eM (C : AFun) (n : Nat) (p0r p0g p0o : Nat) (p1 p2 : Int) (h : Hp) : bodyK E C 39 n Try.f39 [.ptr p0r p0g p0o, .int .i64 p1, .int .i64 p2] h = cells_Arena_Store_M C n p0r p0g p0o p1 p2 h := by kernel_rfl
theorem cells_Arena_Store_eq (n : Nat) (p0r p0g p0o : Nat) (p1 p2 : Int) (h : Hp) : ev E (n + 1) 39 [.ptr p0r p0g p0o, .int .i64 p1, .int .i64 p2] h = cells_Arena_Store (ev E n) n p0r p0g p0o p1 p2 h := by
  rw [ev_body rfl Try.func39, cells_Arena_Store_eM]
  rfl
/-! (*plunder/buffers.game).begin (40) -/
noncomputable def buffers_game_begin_M (C : AFun) (n : Nat) (p0r p0g p0o : Nat) (p1 p2 : Int) (h : Hp) : Option (V × Hp) :=
ldH h p0r p0g (p0o + 1) true 2 fun v1 =>
asAgg v1 fun l2 =>
asCons l2 fun v3 l4 =>
asInt .i64 v3 fun i5 =>
asCons l4 fun v6 l7 =>
asInt .i64 v6 fun i8 =>
asNil l7 (
callB (C 53 [.agg [.int .i64 i5, .int .i64 i8]] h) fun v9 h10 =>
asAgg v9 fun l11 =>
asCons l11 fun v12 l13 =>
asInt .i64 v12 fun i14 =>
asCons l13 fun v15 l16 =>
asInt .i64 v15 fun i17 =>
asCons l16 fun v18 l19 =>
asInt .i64 v18 fun i20 =>
asCons l19 fun v21 l22 =>
asInt .i64 v21 fun i23 =>
asCons l22 fun v24 l25 =>
asInt .i64 v24 fun i26 =>
asCons l25 fun v27 l28 =>
asInt .i64 v27 fun i29 =>
asCons l28 fun v30 l31 =>
asInt .i64 v30 fun i32 =>
asCons l31 fun v33 l34 =>
asInt .i64 v33 fun i35 =>
asCons l34 fun v36 l37 =>
asInt .i64 v36 fun i38 =>
asCons l37 fun v39 l40 =>
asInt .i64 v39 fun i41 =>
asCons l40 fun v42 l43 =>
asInt .i64 v42 fun i44 =>
asCons l43 fun v45 l46 =>
asInt .i64 v45 fun i47 =>
asCons l46 fun v48 l49 =>
asInt .i64 v48 fun i50 =>
asCons l49 fun v51 l52 =>
asBool v51 fun b53 =>
asCons l52 fun v54 l55 =>
asInt .i64 v54 fun i56 =>
asCons l55 fun v57 l58 =>
asInt .i64 v57 fun i59 =>
asNil l58 (
cond (p2 == 0) (
ldH h10 p0r p0g (p0o + 4) false 1 fun v60 =>
lenS v60 fun n61 =>
cond (n61 == 0) (
some (.bool false, h10)) (
ldH h10 p0r p0g (p0o + 4) false 1 fun v62 =>
idxS 2 v62 (.int .i64 0) fun r63 g64 o65 =>
ldH h10 r63 g64 o65 true 2 fun v66 =>
asAgg v66 fun l67 =>
asCons l67 fun v68 l69 =>
asInt .i64 v68 fun i70 =>
asCons l69 fun v71 l72 =>
asInt .i64 v71 fun i73 =>
asNil l72 (
ldH h10 p0r p0g (p0o + 4) false 1 fun v74 =>
slcS 2 v74 (some (.v (.int .i64 1))) none fun v75 =>
stH h10 p0r p0g (p0o + 4) 1 v75 fun h76 =>
ldH h76 p0r p0g (p0o + 1) true 2 fun v77 =>
asAgg v77 fun l78 =>
asCons l78 fun v79 l80 =>
asInt .i64 v79 fun i81 =>
asCons l80 fun v82 l83 =>
asInt .i64 v82 fun i84 =>
asNil l83 (
callB (C 54 [.agg [.int .i64 i81, .int .i64 i84]] h76) fun v85 h86 =>
asAgg v85 fun l87 =>
asCons l87 fun v88 l89 =>
asInt .i64 v88 fun i90 =>
asCons l89 fun v91 l92 =>
asInt .i64 v91 fun i93 =>
asCons l92 fun v94 l95 =>
asInt .i64 v94 fun i96 =>
asCons l95 fun v97 l98 =>
asInt .i64 v97 fun i99 =>
asCons l98 fun v100 l101 =>
asInt .i64 v100 fun i102 =>
asCons l101 fun v103 l104 =>
asInt .i64 v103 fun i105 =>
asCons l104 fun v106 l107 =>
asInt .i64 v106 fun i108 =>
asCons l107 fun v109 l110 =>
asInt .i64 v109 fun i111 =>
asCons l110 fun v112 l113 =>
asInt .i64 v112 fun i114 =>
asCons l113 fun v115 l116 =>
asInt .i64 v115 fun i117 =>
asCons l116 fun v118 l119 =>
asInt .i64 v118 fun i120 =>
asCons l119 fun v121 l122 =>
asInt .i64 v121 fun i123 =>
asCons l122 fun v124 l125 =>
asInt .i64 v124 fun i126 =>
asCons l125 fun v127 l128 =>
asBool v127 fun b129 =>
asCons l128 fun v130 l131 =>
asInt .i64 v130 fun i132 =>
asCons l131 fun v133 l134 =>
asInt .i64 v133 fun i135 =>
asNil l134 (
cond (i70 == 0) (
ldH h86 p0r p0g (p0o + 1) true 2 fun v136 =>
asAgg v136 fun l137 =>
asCons l137 fun v138 l139 =>
asInt .i64 v138 fun i140 =>
asCons l139 fun v141 l142 =>
asInt .i64 v141 fun i143 =>
asNil l142 (
callB (C 55 [.agg [.int .i64 i140, .int .i64 i143], .int .i64 i73] h86) fun v144 h145 =>
asAgg v144 fun l146 =>
asCons l146 fun v147 l148 =>
asInt .i64 v147 fun i149 =>
asCons l148 fun v150 l151 =>
asInt .i64 v150 fun i152 =>
asCons l151 fun v153 l154 =>
asInt .i64 v153 fun i155 =>
asCons l154 fun v156 l157 =>
asInt .i64 v156 fun i158 =>
asCons l157 fun v159 l160 =>
asInt .i64 v159 fun i161 =>
asCons l160 fun v162 l163 =>
asInt .i64 v162 fun i164 =>
asCons l163 fun v165 l166 =>
asInt .i64 v165 fun i167 =>
asCons l166 fun v168 l169 =>
asInt .i64 v168 fun i170 =>
asCons l169 fun v171 l172 =>
asInt .i64 v171 fun i173 =>
asCons l172 fun v174 l175 =>
asInt .i64 v174 fun i176 =>
asCons l175 fun v177 l178 =>
asInt .i64 v177 fun i179 =>
asCons l178 fun v180 l181 =>
asInt .i64 v180 fun i182 =>
asCons l181 fun v183 l184 =>
asInt .i64 v183 fun i185 =>
asCons l184 fun v186 l187 =>
asBool v186 fun b188 =>
asCons l187 fun v189 l190 =>
asInt .i64 v189 fun i191 =>
asCons l190 fun v192 l193 =>
asInt .i64 v192 fun i194 =>
asNil l193 (
ldH h145 p0r p0g (p0o + 5) false 1 fun v195 =>
ldH h145 p0r p0g (p0o + 6) false 1 fun v196 =>
lenS v196 fun n197 =>
idxS 17 v195 (.int .i64 p2) fun r198 g199 o200 =>
stH h145 r198 g199 o200 17 (.agg [.int .i64 i149, .int .i64 i152, .int .i64 i155, .int .i64 i158, .int .i64 i161, .int .i64 i164, .int .i64 i167, .int .i64 i170, .int .i64 i173, .int .i64 i176, .int .i64 i179, .int .i64 i182, .int .i64 i185, .bool b188, .int .i64 i191, .int .i64 i194, .int .i64 n197]) fun h201 =>
ldH h201 p0r p0g (p0o + 6) false 1 fun v202 =>
ldH h201 p0r p0g (p0o + 6) false 1 fun v203 =>
sameV v203 v202 (
appendK 7 56 v202 [.int .i64 p2, .int .i64 i70, .int .i64 i73, .int .i64 p1, .int .i64 (-1), .int .i64 0, .int .i64 0] 1 h201 fun v204 h205 =>
stH h205 p0r p0g (p0o + 6) 1 v204 fun h206 =>
some (.bool true, h206))))) (
ldH h86 p0r p0g (p0o + 5) false 1 fun v207 =>
ldH h86 p0r p0g (p0o + 6) false 1 fun v208 =>
lenS v208 fun n209 =>
idxS 17 v207 (.int .i64 p2) fun r210 g211 o212 =>
stH h86 r210 g211 o212 17 (.agg [.int .i64 i90, .int .i64 i93, .int .i64 i96, .int .i64 i99, .int .i64 i102, .int .i64 i105, .int .i64 i108, .int .i64 i111, .int .i64 i114, .int .i64 i117, .int .i64 i120, .int .i64 i123, .int .i64 i126, .bool b129, .int .i64 i132, .int .i64 i135, .int .i64 n209]) fun h213 =>
ldH h213 p0r p0g (p0o + 6) false 1 fun v214 =>
ldH h213 p0r p0g (p0o + 6) false 1 fun v215 =>
sameV v215 v214 (
appendK 7 56 v214 [.int .i64 p2, .int .i64 i70, .int .i64 0, .int .i64 p1, .int .i64 (-1), .int .i64 0, .int .i64 0] 1 h213 fun v216 h217 =>
stH h217 p0r p0g (p0o + 6) 1 v216 fun h218 =>
some (.bool true, h218)))))))) (
ldH h10 p0r p0g (p0o + 5) false 1 fun v219 =>
ldH h10 p0r p0g (p0o + 6) false 1 fun v220 =>
lenS v220 fun n221 =>
idxS 17 v219 (.int .i64 p2) fun r222 g223 o224 =>
stH h10 r222 g223 o224 17 (.agg [.int .i64 i14, .int .i64 i17, .int .i64 i20, .int .i64 i23, .int .i64 i26, .int .i64 i29, .int .i64 i32, .int .i64 i35, .int .i64 i38, .int .i64 i41, .int .i64 i44, .int .i64 i47, .int .i64 i50, .bool b53, .int .i64 i56, .int .i64 i59, .int .i64 n221]) fun h225 =>
ldH h225 p0r p0g (p0o + 6) false 1 fun v226 =>
ldH h225 p0r p0g (p0o + 6) false 1 fun v227 =>
sameV v227 v226 (
appendK 7 56 v226 [.int .i64 p2, .int .i64 2, .int .i64 0, .int .i64 p1, .int .i64 (-1), .int .i64 0, .int .i64 0] 1 h225 fun v228 h229 =>
stH h229 p0r p0g (p0o + 6) 1 v228 fun h230 =>
some (.bool true, h230)))))
noncomputable def buffers_game_begin (C : AFun) (n : Nat) (p0r p0g p0o : Nat) (p1 p2 : Int) (h : Hp) : Option (V × Hp) := buffers_game_begin_M C n p0r p0g p0o p1 p2 h
theorem buffers_game_begin_eM (C : AFun) (n : Nat) (p0r p0g p0o : Nat) (p1 p2 : Int) (h : Hp) : bodyK E C 40 n Try.f40 [.ptr p0r p0g p0o, .int .i64 p1, .int .i64 p2] h = buffers_game_begin_M C n p0r p0g p0o p1 p2 h := by kernel_rfl
theorem buffers_game_begin_eq (n : Nat) (p0r p0g p0o : Nat) (p1 p2 : Int) (h : Hp) : ev E (n + 1) 40 [.ptr p0r p0g p0o, .int .i64 p1, .int .i64 p2] h = buffers_game_begin (ev E n) n p0r p0g p0o p1 p2 h := by
  rw [ev_body rfl Try.func40, buffers_game_begin_eM]
  rfl
/-! plunder/deque.Step (41) -/
noncomputable def deque_Step_M (C : AFun) (n : Nat) (p0 : V) (p1_0 p1_1 p1_2 p1_3 p1_4 p1_5 p1_6 p1_7 p1_8 p1_9 p1_10 p1_11 p1_12 : Int) (p1_13 : Bool) (p1_14 p1_15 : Int) (h : Hp) : Option (V × Hp) :=
cond ((p1_0 == 0) && ((p1_1 == 0) && ((p1_2 == 0) && ((p1_3 == 0) && ((p1_4 == 0) && ((p1_5 == 0) && ((p1_6 == 0) && ((p1_7 == 0) && ((p1_8 == 0) && ((p1_9 == 0) && ((p1_10 == 0) && ((p1_11 == 0) && ((p1_12 == 0) && ((p1_13 == false) && ((p1_14 == 0) && ((p1_15 == 0) && true)))))))))))))))) (
some (.agg [.int .i64 p1_0, .int .i64 p1_1, .int .i64 p1_2, .int .i64 p1_3, .int .i64 p1_4, .int .i64 p1_5, .int .i64 p1_6, .int .i64 p1_7, .int .i64 p1_8, .int .i64 p1_9, .int .i64 p1_10, .int .i64 p1_11, .int .i64 p1_12, .bool p1_13, .int .i64 p1_14, .int .i64 p1_15], h)) (
cond (p1_1 == 0) (
some (.agg [.int .i64 p1_0, .int .i64 p1_1, .int .i64 p1_2, .int .i64 p1_3, .int .i64 p1_4, .int .i64 p1_5, .int .i64 p1_6, .int .i64 p1_7, .int .i64 p1_8, .int .i64 p1_9, .int .i64 p1_10, .int .i64 p1_11, .int .i64 p1_12, .bool p1_13, .int .i64 p1_14, .int .i64 p1_15], h)) (
binK prog .eql 102 true p0 .niliface fun v1 =>
asBool v1 fun b2 =>
cond b2 (
callB (C 56 [.agg [.int .i64 p1_0, .int .i64 p1_1, .int .i64 p1_2, .int .i64 p1_3, .int .i64 p1_4, .int .i64 p1_5, .int .i64 p1_6, .int .i64 p1_7, .int .i64 p1_8, .int .i64 p1_9, .int .i64 p1_10, .int .i64 p1_11, .int .i64 p1_12, .bool p1_13, .int .i64 p1_14, .int .i64 p1_15], .int .i64 1, .int .i64 0] h) fun v3 h4 =>
asAgg v3 fun l5 =>
asCons l5 fun v6 l7 =>
asInt .i64 v6 fun i8 =>
asCons l7 fun v9 l10 =>
asInt .i64 v9 fun i11 =>
asCons l10 fun v12 l13 =>
asInt .i64 v12 fun i14 =>
asCons l13 fun v15 l16 =>
asInt .i64 v15 fun i17 =>
asCons l16 fun v18 l19 =>
asInt .i64 v18 fun i20 =>
asCons l19 fun v21 l22 =>
asInt .i64 v21 fun i23 =>
asCons l22 fun v24 l25 =>
asInt .i64 v24 fun i26 =>
asCons l25 fun v27 l28 =>
asInt .i64 v27 fun i29 =>
asCons l28 fun v30 l31 =>
asInt .i64 v30 fun i32 =>
asCons l31 fun v33 l34 =>
asInt .i64 v33 fun i35 =>
asCons l34 fun v36 l37 =>
asInt .i64 v36 fun i38 =>
asCons l37 fun v39 l40 =>
asInt .i64 v39 fun i41 =>
asCons l40 fun v42 l43 =>
asInt .i64 v42 fun i44 =>
asCons l43 fun v45 l46 =>
asBool v45 fun b47 =>
asCons l46 fun v48 l49 =>
asInt .i64 v48 fun i50 =>
asCons l49 fun v51 l52 =>
asInt .i64 v51 fun i53 =>
asNil l52 (
some (.agg [.int .i64 i8, .int .i64 i11, .int .i64 i14, .int .i64 i17, .int .i64 i20, .int .i64 i23, .int .i64 i26, .int .i64 i29, .int .i64 i32, .int .i64 i35, .int .i64 i38, .int .i64 i41, .int .i64 i44, .bool b47, .int .i64 i50, .int .i64 i53], h4))) (
callB (C 57 [.agg [.int .i64 p1_0, .int .i64 p1_1, .int .i64 p1_2, .int .i64 p1_3, .int .i64 p1_4, .int .i64 p1_5, .int .i64 p1_6, .int .i64 p1_7, .int .i64 p1_8, .int .i64 p1_9, .int .i64 p1_10, .int .i64 p1_11, .int .i64 p1_12, .bool p1_13, .int .i64 p1_14, .int .i64 p1_15], p0] h) fun v54 h55 =>
asTup v54 fun l56 =>
asCons l56 fun v57 l58 =>
asInt .i64 v57 fun i59 =>
asCons l58 fun v60 l61 =>
asInt .i64 v60 fun i62 =>
asNil l61 (
cond (i62 != 0) (
callB (C 56 [.agg [.int .i64 p1_0, .int .i64 p1_1, .int .i64 p1_2, .int .i64 p1_3, .int .i64 p1_4, .int .i64 p1_5, .int .i64 p1_6, .int .i64 p1_7, .int .i64 p1_8, .int .i64 p1_9, .int .i64 p1_10, .int .i64 p1_11, .int .i64 p1_12, .bool p1_13, .int .i64 p1_14, .int .i64 p1_15], .int .i64 1, .int .i64 0] h55) fun v63 h64 =>
asAgg v63 fun l65 =>
asCons l65 fun v66 l67 =>
asInt .i64 v66 fun i68 =>
asCons l67 fun v69 l70 =>
asInt .i64 v69 fun i71 =>
asCons l70 fun v72 l73 =>
asInt .i64 v72 fun i74 =>
asCons l73 fun v75 l76 =>
asInt .i64 v75 fun i77 =>
asCons l76 fun v78 l79 =>
asInt .i64 v78 fun i80 =>
asCons l79 fun v81 l82 =>
asInt .i64 v81 fun i83 =>
asCons l82 fun v84 l85 =>
asInt .i64 v84 fun i86 =>
asCons l85 fun v87 l88 =>
asInt .i64 v87 fun i89 =>
asCons l88 fun v90 l91 =>
asInt .i64 v90 fun i92 =>
asCons l91 fun v93 l94 =>
asInt .i64 v93 fun i95 =>
asCons l94 fun v96 l97 =>
asInt .i64 v96 fun i98 =>
asCons l97 fun v99 l100 =>
asInt .i64 v99 fun i101 =>
asCons l100 fun v102 l103 =>
asInt .i64 v102 fun i104 =>
asCons l103 fun v105 l106 =>
asBool v105 fun b107 =>
asCons l106 fun v108 l109 =>
asInt .i64 v108 fun i110 =>
asCons l109 fun v111 l112 =>
asInt .i64 v111 fun i113 =>
asNil l112 (
some (.agg [.int .i64 i68, .int .i64 i71, .int .i64 i74, .int .i64 i77, .int .i64 i80, .int .i64 i83, .int .i64 i86, .int .i64 i89, .int .i64 i92, .int .i64 i95, .int .i64 i98, .int .i64 i101, .int .i64 i104, .bool b107, .int .i64 i110, .int .i64 i113], h64))) (
cond (p1_0 == 1) (
callB (C 58 [.agg [.int .i64 p1_0, .int .i64 p1_1, .int .i64 p1_2, .int .i64 p1_3, .int .i64 p1_4, .int .i64 p1_5, .int .i64 p1_6, .int .i64 p1_7, .int .i64 p1_8, .int .i64 p1_9, .int .i64 p1_10, .int .i64 p1_11, .int .i64 p1_12, .bool p1_13, .int .i64 p1_14, .int .i64 p1_15], .int .i64 i59] h55) fun v114 h115 =>
asAgg v114 fun l116 =>
asCons l116 fun v117 l118 =>
asInt .i64 v117 fun i119 =>
asCons l118 fun v120 l121 =>
asInt .i64 v120 fun i122 =>
asCons l121 fun v123 l124 =>
asInt .i64 v123 fun i125 =>
asCons l124 fun v126 l127 =>
asInt .i64 v126 fun i128 =>
asCons l127 fun v129 l130 =>
asInt .i64 v129 fun i131 =>
asCons l130 fun v132 l133 =>
asInt .i64 v132 fun i134 =>
asCons l133 fun v135 l136 =>
asInt .i64 v135 fun i137 =>
asCons l136 fun v138 l139 =>
asInt .i64 v138 fun i140 =>
asCons l139 fun v141 l142 =>
asInt .i64 v141 fun i143 =>
asCons l142 fun v144 l145 =>
asInt .i64 v144 fun i146 =>
asCons l145 fun v147 l148 =>
asInt .i64 v147 fun i149 =>
asCons l148 fun v150 l151 =>
asInt .i64 v150 fun i152 =>
asCons l151 fun v153 l154 =>
asInt .i64 v153 fun i155 =>
asCons l154 fun v156 l157 =>
asBool v156 fun b158 =>
asCons l157 fun v159 l160 =>
asInt .i64 v159 fun i161 =>
asCons l160 fun v162 l163 =>
asInt .i64 v162 fun i164 =>
asNil l163 (
some (.agg [.int .i64 i119, .int .i64 i122, .int .i64 i125, .int .i64 i128, .int .i64 i131, .int .i64 i134, .int .i64 i137, .int .i64 i140, .int .i64 i143, .int .i64 i146, .int .i64 i149, .int .i64 i152, .int .i64 i155, .bool b158, .int .i64 i161, .int .i64 i164], h115))) (
cond (p1_0 == 2) (
callB (C 59 [.agg [.int .i64 p1_0, .int .i64 p1_1, .int .i64 p1_2, .int .i64 p1_3, .int .i64 p1_4, .int .i64 p1_5, .int .i64 p1_6, .int .i64 p1_7, .int .i64 p1_8, .int .i64 p1_9, .int .i64 p1_10, .int .i64 p1_11, .int .i64 p1_12, .bool p1_13, .int .i64 p1_14, .int .i64 p1_15], .int .i64 i59] h55) fun v165 h166 =>
asAgg v165 fun l167 =>
asCons l167 fun v168 l169 =>
asInt .i64 v168 fun i170 =>
asCons l169 fun v171 l172 =>
asInt .i64 v171 fun i173 =>
asCons l172 fun v174 l175 =>
asInt .i64 v174 fun i176 =>
asCons l175 fun v177 l178 =>
asInt .i64 v177 fun i179 =>
asCons l178 fun v180 l181 =>
asInt .i64 v180 fun i182 =>
asCons l181 fun v183 l184 =>
asInt .i64 v183 fun i185 =>
asCons l184 fun v186 l187 =>
asInt .i64 v186 fun i188 =>
asCons l187 fun v189 l190 =>
asInt .i64 v189 fun i191 =>
asCons l190 fun v192 l193 =>
asInt .i64 v192 fun i194 =>
asCons l193 fun v195 l196 =>
asInt .i64 v195 fun i197 =>
asCons l196 fun v198 l199 =>
asInt .i64 v198 fun i200 =>
asCons l199 fun v201 l202 =>
asInt .i64 v201 fun i203 =>
asCons l202 fun v204 l205 =>
asInt .i64 v204 fun i206 =>
asCons l205 fun v207 l208 =>
asBool v207 fun b209 =>
asCons l208 fun v210 l211 =>
asInt .i64 v210 fun i212 =>
asCons l211 fun v213 l214 =>
asInt .i64 v213 fun i215 =>
asNil l214 (
some (.agg [.int .i64 i170, .int .i64 i173, .int .i64 i176, .int .i64 i179, .int .i64 i182, .int .i64 i185, .int .i64 i188, .int .i64 i191, .int .i64 i194, .int .i64 i197, .int .i64 i200, .int .i64 i203, .int .i64 i206, .bool b209, .int .i64 i212, .int .i64 i215], h166))) (
cond (p1_0 == 3) (
callB (C 60 [.agg [.int .i64 p1_0, .int .i64 p1_1, .int .i64 p1_2, .int .i64 p1_3, .int .i64 p1_4, .int .i64 p1_5, .int .i64 p1_6, .int .i64 p1_7, .int .i64 p1_8, .int .i64 p1_9, .int .i64 p1_10, .int .i64 p1_11, .int .i64 p1_12, .bool p1_13, .int .i64 p1_14, .int .i64 p1_15], .int .i64 i59] h55) fun v216 h217 =>
asAgg v216 fun l218 =>
asCons l218 fun v219 l220 =>
asInt .i64 v219 fun i221 =>
asCons l220 fun v222 l223 =>
asInt .i64 v222 fun i224 =>
asCons l223 fun v225 l226 =>
asInt .i64 v225 fun i227 =>
asCons l226 fun v228 l229 =>
asInt .i64 v228 fun i230 =>
asCons l229 fun v231 l232 =>
asInt .i64 v231 fun i233 =>
asCons l232 fun v234 l235 =>
asInt .i64 v234 fun i236 =>
asCons l235 fun v237 l238 =>
asInt .i64 v237 fun i239 =>
asCons l238 fun v240 l241 =>
asInt .i64 v240 fun i242 =>
asCons l241 fun v243 l244 =>
asInt .i64 v243 fun i245 =>
asCons l244 fun v246 l247 =>
asInt .i64 v246 fun i248 =>
asCons l247 fun v249 l250 =>
asInt .i64 v249 fun i251 =>
asCons l250 fun v252 l253 =>
asInt .i64 v252 fun i254 =>
asCons l253 fun v255 l256 =>
asInt .i64 v255 fun i257 =>
asCons l256 fun v258 l259 =>
asBool v258 fun b260 =>
asCons l259 fun v261 l262 =>
asInt .i64 v261 fun i263 =>
asCons l262 fun v264 l265 =>
asInt .i64 v264 fun i266 =>
asNil l265 (
some (.agg [.int .i64 i221, .int .i64 i224, .int .i64 i227, .int .i64 i230, .int .i64 i233, .int .i64 i236, .int .i64 i239, .int .i64 i242, .int .i64 i245, .int .i64 i248, .int .i64 i251, .int .i64 i254, .int .i64 i257, .bool b260, .int .i64 i263, .int .i64 i266], h217))) (
callB (C 61 [.agg [.int .i64 p1_0, .int .i64 p1_1, .int .i64 p1_2, .int .i64 p1_3, .int .i64 p1_4, .int .i64 p1_5, .int .i64 p1_6, .int .i64 p1_7, .int .i64 p1_8, .int .i64 p1_9, .int .i64 p1_10, .int .i64 p1_11, .int .i64 p1_12, .bool p1_13, .int .i64 p1_14, .int .i64 p1_15], .int .i64 i59] h55) fun v267 h268 =>
asAgg v267 fun l269 =>
asCons l269 fun v270 l271 =>
asInt .i64 v270 fun i272 =>
asCons l271 fun v273 l274 =>
asInt .i64 v273 fun i275 =>
asCons l274 fun v276 l277 =>
asInt .i64 v276 fun i278 =>
asCons l277 fun v279 l280 =>
asInt .i64 v279 fun i281 =>
asCons l280 fun v282 l283 =>
asInt .i64 v282 fun i284 =>
asCons l283 fun v285 l286 =>
asInt .i64 v285 fun i287 =>
asCons l286 fun v288 l289 =>
asInt .i64 v288 fun i290 =>
asCons l289 fun v291 l292 =>
asInt .i64 v291 fun i293 =>
asCons l292 fun v294 l295 =>
asInt .i64 v294 fun i296 =>
asCons l295 fun v297 l298 =>
asInt .i64 v297 fun i299 =>
asCons l298 fun v300 l301 =>
asInt .i64 v300 fun i302 =>
asCons l301 fun v303 l304 =>
asInt .i64 v303 fun i305 =>
asCons l304 fun v306 l307 =>
asInt .i64 v306 fun i308 =>
asCons l307 fun v309 l310 =>
asBool v309 fun b311 =>
asCons l310 fun v312 l313 =>
asInt .i64 v312 fun i314 =>
asCons l313 fun v315 l316 =>
asInt .i64 v315 fun i317 =>
asNil l316 (
some (.agg [.int .i64 i272, .int .i64 i275, .int .i64 i278, .int .i64 i281, .int .i64 i284, .int .i64 i287, .int .i64 i290, .int .i64 i293, .int .i64 i296, .int .i64 i299, .int .i64 i302, .int .i64 i305, .int .i64 i308, .bool b311, .int .i64 i314, .int .i64 i317], h268))))))))))
noncomputable def deque_Step (C : AFun) (n : Nat) (p0 : V) (p1_0 p1_1 p1_2 p1_3 p1_4 p1_5 p1_6 p1_7 p1_8 p1_9 p1_10 p1_11 p1_12 : Int) (p1_13 : Bool) (p1_14 p1_15 : Int) (h : Hp) : Option (V × Hp) := deque_Step_M C n p0 p1_0 p1_1 p1_2 p1_3 p1_4 p1_5 p1_6 p1_7 p1_8 p1_9 p1_10 p1_11 p1_12 p1_13 p1_14 p1_15 h
theorem deque_Step_eM (C : AFun) (n : Nat) (p0 : V) (p1_0 p1_1 p1_2 p1_3 p1_4 p1_5 p1_6 p1_7 p1_8 p1_9 p1_10 p1_11 p1_12 : Int) (p1_13 : Bool) (p1_14 p1_15 : Int) (h : Hp) : bodyK E C 41 n Try.f41 [p0, .agg [.int .i64 p1_0, .int .i64 p1_1, .int .i64 p1_2, .int .i64 p1_3, .int .i64 p1_4, .int .i64 p1_5, .int .i64 p1_6, .int .i64 p1_7, .int .i64 p1_8, .int .i64 p1_9, .int .i64 p1_10, .int .i64 p1_11, .int .i64 p1_12, .bool p1_13, .int .i64 p1_14, .int .i64 p1_15]] h = deque_Step_M C n p0 p1_0 p1_1 p1_2 p1_3 p1_4 p1_5 p1_6 p1_7 p1_8 p1_9 p1_10 p1_11 p1_12 p1_13 p1_14 p1_15 h := by kernel_rfl
theorem deque_Step_eq (n : Nat) (p0 : V) (p1_0 p1_1 p1_2 p1_3 p1_4 p1_5 p1_6 p1_7 p1_8 p1_9 p1_10 p1_11 p1_12 : Int) (p1_13 : Bool) (p1_14 p1_15 : Int) (h : Hp) : ev E (n + 1) 41 [p0, .agg [.int .i64 p1_0, .int .i64 p1_1, .int .i64 p1_2, .int .i64 p1_3, .int .i64 p1_4, .int .i64 p1_5, .int .i64 p1_6, .int .i64 p1_7, .int .i64 p1_8, .int .i64 p1_9, .int .i64 p1_10, .int .i64 p1_11, .int .i64 p1_12, .bool p1_13, .int .i64 p1_14, .int .i64 p1_15]] h = deque_Step (ev E n) n p0 p1_0 p1_1 p1_2 p1_3 p1_4 p1_5 p1_6 p1_7 p1_8 p1_9 p1_10 p1_11 p1_12 p1_13 p1_14 p1_15 h := by
  rw [ev_body rfl Try.func41, deque_Step_eM]
  rfl
/-! (*plunder/buffers.game).on (42) -/
noncomputable def buffers_game_on_M (C : AFun) (n : Nat) (p0r p0g p0o : Nat) (p1 : Int) (h : Hp) : Option (V × Hp) :=
ldH h p0r p0g (p0o + 0) false 1 fun v1 =>
callB (C 21 [v1, .int .i64 p1] h) fun v2 h3 =>
ldH h3 p0r p0g (p0o + 3) false 1 fun v4 =>
asBool v4 fun b5 =>
cond b5 (
ldH h3 p0r p0g (p0o + 6) false 1 fun v6 =>
ldH h3 p0r p0g (p0o + 5) false 1 fun v7 =>
idxS 17 v7 (.int .i64 p1) fun r8 g9 o10 =>
ldH h3 r8 g9 (o10 + 16) false 1 fun v11 =>
asInt .i64 v11 fun i12 =>
idxS 7 v6 (.int .i64 i12) fun r13 g14 o15 =>
ldH h3 r13 g14 (o15 + 1) false 1 fun v16 =>
asInt .i64 v16 fun i17 =>
cond (i17 == 1) (
fillB (fun i => [(0, 1)][i]?) [.nilp] [(0, v2)] fun l18 =>
asCons l18 fun v19 l20 =>
asNil l20 (
some (.iface 128 (.agg [v19]), h3))) (
some (.iface 68 v2, h3))) (
some (.iface 68 v2, h3))
noncomputable def buffers_game_on (C : AFun) (n : Nat) (p0r p0g p0o : Nat) (p1 : Int) (h : Hp) : Option (V × Hp) := buffers_game_on_M C n p0r p0g p0o p1 h
theorem buffers_game_on_eM (C : AFun) (n : Nat) (p0r p0g p0o : Nat) (p1 : Int) (h : Hp) : bodyK E C 42 n Try.f42 [.ptr p0r p0g p0o, .int .i64 p1] h = buffers_game_on_M C n p0r p0g p0o p1 h := by kernel_rfl
theorem buffers_game_on_eq (n : Nat) (p0r p0g p0o : Nat) (p1 : Int) (h : Hp) : ev E (n + 1) 42 [.ptr p0r p0g p0o, .int .i64 p1] h = buffers_game_on (ev E n) n p0r p0g p0o p1 h := by
  rw [ev_body rfl Try.func42, buffers_game_on_eM]
  rfl
/-! plunder/deque.Answer (43) -/
noncomputable def deque_Answer_M (C : AFun) (n : Nat) (p0_0 p0_1 p0_2 p0_3 p0_4 p0_5 p0_6 p0_7 p0_8 p0_9 p0_10 p0_11 p0_12 : Int) (p0_13 : Bool) (p0_14 p0_15 : Int) (h : Hp) : Option (V × Hp) :=
cond ((p0_0 == 0) && ((p0_1 == 0) && ((p0_2 == 0) && ((p0_3 == 0) && ((p0_4 == 0) && ((p0_5 == 0) && ((p0_6 == 0) && ((p0_7 == 0) && ((p0_8 == 0) && ((p0_9 == 0) && ((p0_10 == 0) && ((p0_11 == 0) && ((p0_12 == 0) && ((p0_13 == false) && ((p0_14 == 0) && ((p0_15 == 0) && true)))))))))))))))) (
some (.tup [.int .i64 1, .int .i64 0], h)) (
cond (p0_1 != 0) (
some (.tup [.int .i64 0, .int .i64 0], h)) (
some (.tup [.int .i64 p0_14, .int .i64 p0_15], h)))
noncomputable def deque_Answer (C : AFun) (n : Nat) (p0_0 p0_1 p0_2 p0_3 p0_4 p0_5 p0_6 p0_7 p0_8 p0_9 p0_10 p0_11 p0_12 : Int) (p0_13 : Bool) (p0_14 p0_15 : Int) (h : Hp) : Option (V × Hp) := deque_Answer_M C n p0_0 p0_1 p0_2 p0_3 p0_4 p0_5 p0_6 p0_7 p0_8 p0_9 p0_10 p0_11 p0_12 p0_13 p0_14 p0_15 h
theorem deque_Answer_eM (C : AFun) (n : Nat) (p0_0 p0_1 p0_2 p0_3 p0_4 p0_5 p0_6 p0_7 p0_8 p0_9 p0_10 p0_11 p0_12 : Int) (p0_13 : Bool) (p0_14 p0_15 : Int) (h : Hp) : bodyK E C 43 n Try.f43 [.agg [.int .i64 p0_0, .int .i64 p0_1, .int .i64 p0_2, .int .i64 p0_3, .int .i64 p0_4, .int .i64 p0_5, .int .i64 p0_6, .int .i64 p0_7, .int .i64 p0_8, .int .i64 p0_9, .int .i64 p0_10, .int .i64 p0_11, .int .i64 p0_12, .bool p0_13, .int .i64 p0_14, .int .i64 p0_15]] h = deque_Answer_M C n p0_0 p0_1 p0_2 p0_3 p0_4 p0_5 p0_6 p0_7 p0_8 p0_9 p0_10 p0_11 p0_12 p0_13 p0_14 p0_15 h := by kernel_rfl
theorem deque_Answer_eq (n : Nat) (p0_0 p0_1 p0_2 p0_3 p0_4 p0_5 p0_6 p0_7 p0_8 p0_9 p0_10 p0_11 p0_12 : Int) (p0_13 : Bool) (p0_14 p0_15 : Int) (h : Hp) : ev E (n + 1) 43 [.agg [.int .i64 p0_0, .int .i64 p0_1, .int .i64 p0_2, .int .i64 p0_3, .int .i64 p0_4, .int .i64 p0_5, .int .i64 p0_6, .int .i64 p0_7, .int .i64 p0_8, .int .i64 p0_9, .int .i64 p0_10, .int .i64 p0_11, .int .i64 p0_12, .bool p0_13, .int .i64 p0_14, .int .i64 p0_15]] h = deque_Answer (ev E n) n p0_0 p0_1 p0_2 p0_3 p0_4 p0_5 p0_6 p0_7 p0_8 p0_9 p0_10 p0_11 p0_12 p0_13 p0_14 p0_15 h := by
  rw [ev_body rfl Try.func43, deque_Answer_eM]
  rfl
/-! (*plunder/buffers.Memory).Cells (44) -/
noncomputable def buffers_Memory_Cells_M (C : AFun) (n : Nat) (p0r p0g p0o : Nat) (h : Hp) : Option (V × Hp) :=
ldH h p0r p0g (p0o + 0) false 1 fun v1 =>
callB (C 49 [v1] h) fun v2 h3 =>
some (v2, h3)
noncomputable def buffers_Memory_Cells (C : AFun) (n : Nat) (p0r p0g p0o : Nat) (h : Hp) : Option (V × Hp) := buffers_Memory_Cells_M C n p0r p0g p0o h
theorem buffers_Memory_Cells_eM (C : AFun) (n : Nat) (p0r p0g p0o : Nat) (h : Hp) : bodyK E C 44 n Try.f44 [.ptr p0r p0g p0o] h = buffers_Memory_Cells_M C n p0r p0g p0o h := by kernel_rfl
theorem buffers_Memory_Cells_eq (n : Nat) (p0r p0g p0o : Nat) (h : Hp) : ev E (n + 1) 44 [.ptr p0r p0g p0o] h = buffers_Memory_Cells (ev E n) n p0r p0g p0o h := by
  rw [ev_body rfl Try.func44, buffers_Memory_Cells_eM]
  rfl
/-! slices.Grow[[]int,int] (45) -/
noncomputable def slices_Grow_int_int_M (C : AFun) (n : Nat) (p0 : V) (p1 : Int) (h : Hp) : Option (V × Hp) :=
cond (decide (p1 < 0)) (
none) (
capS p0 (
lenS p0 fun n1 =>
cond (decide ((wr .i64 (p1 - (wr .i64 ((0 : Int) - n1)))) > 0)) (
capS p0 (
slcS 1 p0 none (some (.v (.int .i64 0))) fun v2 =>
srcZ [.int .i64 0] 8 (wr .i64 (p1 - (wr .i64 ((0 : Int) - n1)))) fun l3 n4 =>
appendK 1 8 v2 l3 n4 h fun v5 h6 =>
lenS p0 fun n7 =>
slcS 1 v5 none (some (.v (.int .i64 n7))) fun v8 =>
some (v8, h6))) (
some (p0, h))))
noncomputable def slices_Grow_int_int (C : AFun) (n : Nat) (p0 : V) (p1 : Int) (h : Hp) : Option (V × Hp) := slices_Grow_int_int_M C n p0 p1 h
theorem slices_Grow_int_int_eM (C : AFun) (n : Nat) (p0 : V) (p1 : Int) (h : Hp) : bodyK E C 45 n Try.f45 [p0, .int .i64 p1] h = slices_Grow_int_int_M C n p0 p1 h := by kernel_rfl
theorem slices_Grow_int_int_eq (n : Nat) (p0 : V) (p1 : Int) (h : Hp) : ev E (n + 1) 45 [p0, .int .i64 p1] h = slices_Grow_int_int (ev E n) n p0 p1 h := by
  rw [ev_body rfl Try.func45, slices_Grow_int_int_eM]
  rfl
/-! math/bits.Mul (46) -/
noncomputable def math_bits_Mul_M (C : AFun) (n : Nat) (p0 p1 : Int) (h : Hp) : Option (V × Hp) :=
callB (C 63 [.int .u64 p0, .int .u64 p1] h) fun v1 h2 =>
asTup v1 fun l3 =>
asCons l3 fun v4 l5 =>
asInt .u64 v4 fun i6 =>
asCons l5 fun v7 l8 =>
asInt .u64 v7 fun i9 =>
asNil l8 (
some (.tup [.int .u64 i6, .int .u64 i9], h2))
noncomputable def math_bits_Mul (C : AFun) (n : Nat) (p0 p1 : Int) (h : Hp) : Option (V × Hp) := math_bits_Mul_M C n p0 p1 h
theorem math_bits_Mul_eM (C : AFun) (n : Nat) (p0 p1 : Int) (h : Hp) : bodyK E C 46 n Try.f46 [.int .u64 p0, .int .u64 p1] h = math_bits_Mul_M C n p0 p1 h := by kernel_rfl
theorem math_bits_Mul_eq (n : Nat) (p0 p1 : Int) (h : Hp) : ev E (n + 1) 46 [.int .u64 p0, .int .u64 p1] h = math_bits_Mul (ev E n) n p0 p1 h := by
  rw [ev_body rfl Try.func46, math_bits_Mul_eM]
  rfl
/-! plunder/cells.good (47) -/
noncomputable def cells_good_M (C : AFun) (n : Nat) (p0 : Int) (h : Hp) : Option (V × Hp) :=
cond (decide (p0 ≥ 0)) (
some (.bool (decide (p0 ≤ 1048576)), h)) (
some (.bool false, h))
noncomputable def cells_good (C : AFun) (n : Nat) (p0 : Int) (h : Hp) : Option (V × Hp) := cells_good_M C n p0 h
theorem cells_good_eM (C : AFun) (n : Nat) (p0 : Int) (h : Hp) : bodyK E C 47 n Try.f47 [.int .i64 p0] h = cells_good_M C n p0 h := by kernel_rfl
theorem cells_good_eq (n : Nat) (p0 : Int) (h : Hp) : ev E (n + 1) 47 [.int .i64 p0] h = cells_good (ev E n) n p0 h := by
  rw [ev_body rfl Try.func47, cells_good_eM]
  rfl
/-! (*plunder/cells.Arena).Cells (49) -/
noncomputable def cells_Arena_Cells_M (C : AFun) (n : Nat) (p0r p0g p0o : Nat) (h : Hp) : Option (V × Hp) :=
ldH h p0r p0g (p0o + 2) false 1 fun v1 =>
lenS v1 fun n2 =>
mkS [.int .i64 0] 1 8 n2 n2 h fun r3 n4 h5 =>
ldH h5 p0r p0g (p0o + 2) false 1 fun v6 =>
srcS 1 h5 v6 fun l7 n8 =>
copyK 1 (.sl r3 n4 1 0 n4) l7 n8 h5 fun v9 h10 =>
some (.sl r3 n4 1 0 n4, h10)
noncomputable def cells_Arena_Cells (C : AFun) (n : Nat) (p0r p0g p0o : Nat) (h : Hp) : Option (V × Hp) := cells_Arena_Cells_M C n p0r p0g p0o h
theorem cells_Arena_Cells_eM (C : AFun) (n : Nat) (p0r p0g p0o : Nat) (h : Hp) : bodyK E C 49 n Try.f49 [.ptr p0r p0g p0o] h = cells_Arena_Cells_M C n p0r p0g p0o h := by kernel_rfl
theorem cells_Arena_Cells_eq (n : Nat) (p0r p0g p0o : Nat) (h : Hp) : ev E (n + 1) 49 [.ptr p0r p0g p0o] h = cells_Arena_Cells (ev E n) n p0r p0g p0o h := by
  rw [ev_body rfl Try.func49, cells_Arena_Cells_eM]
  rfl
/-! plunder/deque.place (50) -/
noncomputable def deque_place_M (C : AFun) (n : Nat) (p0 p1 p2 : Int) (h : Hp) : Option (V × Hp) :=
ifI (p1 = 0) (
cond (decide ((Int.tmod p2 p1) < 0)) (
some (.int .i64 (wr .i64 ((wr .i64 (p0 + 1)) + (wr .i64 ((Int.tmod p2 p1) + p1)))), h)) (
some (.int .i64 (wr .i64 ((wr .i64 (p0 + 1)) + (Int.tmod p2 p1))), h)))
noncomputable def deque_place (C : AFun) (n : Nat) (p0 p1 p2 : Int) (h : Hp) : Option (V × Hp) := deque_place_M C n p0 p1 p2 h
theorem deque_place_eM (C : AFun) (n : Nat) (p0 p1 p2 : Int) (h : Hp) : bodyK E C 50 n Try.f50 [.int .i64 p0, .int .i64 p1, .int .i64 p2] h = deque_place_M C n p0 p1 p2 h := by kernel_rfl
theorem deque_place_eq (n : Nat) (p0 p1 p2 : Int) (h : Hp) : ev E (n + 1) 50 [.int .i64 p0, .int .i64 p1, .int .i64 p2] h = deque_place (ev E n) n p0 p1 p2 h := by
  rw [ev_body rfl Try.func50, deque_place_eM]
  rfl
/-! (*plunder/cells.Arena).outside (51) -/
noncomputable def cells_Arena_outside_M (C : AFun) (n : Nat) (p0r p0g p0o : Nat) (p1 : Int) (h : Hp) : Option (V × Hp) :=
callB (C 64 [.ptr p0r p0g (p0o + 0), .int .i64 p1] h) fun v1 h2 =>
asBool v1 fun b3 =>
some (.bool (!b3), h2)
noncomputable def cells_Arena_outside (C : AFun) (n : Nat) (p0r p0g p0o : Nat) (p1 : Int) (h : Hp) : Option (V × Hp) := cells_Arena_outside_M C n p0r p0g p0o p1 h
theorem cells_Arena_outside_eM (C : AFun) (n : Nat) (p0r p0g p0o : Nat) (p1 : Int) (h : Hp) : bodyK E C 51 n Try.f51 [.ptr p0r p0g p0o, .int .i64 p1] h = cells_Arena_outside_M C n p0r p0g p0o p1 h := by kernel_rfl
theorem cells_Arena_outside_eq (n : Nat) (p0r p0g p0o : Nat) (p1 : Int) (h : Hp) : ev E (n + 1) 51 [.ptr p0r p0g p0o, .int .i64 p1] h = cells_Arena_outside (ev E n) n p0r p0g p0o p1 h := by
  rw [ev_body rfl Try.func51, cells_Arena_outside_eM]
  rfl
/-! (*plunder/cells.Arena).note (52) -/
noncomputable def cells_Arena_note_M (C : AFun) (n : Nat) (p0r p0g p0o : Nat) (p1 p2 p3 p4 : Int) (p5 : Bool) (h : Hp) : Option (V × Hp) :=
ldH h p0r p0g (p0o + 5) false 1 fun v1 =>
asBool v1 fun b2 =>
cond b2 (
ldH h p0r p0g (p0o + 3) false 1 fun v3 =>
ldH h p0r p0g (p0o + 4) false 1 fun v4 =>
asInt .i64 v4 fun i5 =>
ldH h p0r p0g (p0o + 3) false 1 fun v6 =>
sameV v6 v3 (
appendK 6 48 v3 [.int .i64 i5, .int .i64 p1, .int .i64 p2, .int .i64 p3, .int .i64 p4, .bool p5] 1 h fun v7 h8 =>
stH h8 p0r p0g (p0o + 3) 1 v7 fun h9 =>
some (.tup [], h9))) (
some (.tup [], h))
noncomputable def cells_Arena_note (C : AFun) (n : Nat) (p0r p0g p0o : Nat) (p1 p2 p3 p4 : Int) (p5 : Bool) (h : Hp) : Option (V × Hp) := cells_Arena_note_M C n p0r p0g p0o p1 p2 p3 p4 p5 h
theorem cells_Arena_note_eM (C : AFun) (n : Nat) (p0r p0g p0o : Nat) (p1 p2 p3 p4 : Int) (p5 : Bool) (h : Hp) : bodyK E C 52 n Try.f52 [.ptr p0r p0g p0o, .int .i64 p1, .int .i64 p2, .int .i64 p3, .int .i64 p4, .bool p5] h = cells_Arena_note_M C n p0r p0g p0o p1 p2 p3 p4 p5 h := by kernel_rfl
theorem cells_Arena_note_eq (n : Nat) (p0r p0g p0o : Nat) (p1 p2 p3 p4 : Int) (p5 : Bool) (h : Hp) : ev E (n + 1) 52 [.ptr p0r p0g p0o, .int .i64 p1, .int .i64 p2, .int .i64 p3, .int .i64 p4, .bool p5] h = cells_Arena_note (ev E n) n p0r p0g p0o p1 p2 p3 p4 p5 h := by
  rw [ev_body rfl Try.func52, cells_Arena_note_eM]
  rfl
/-! plunder/deque.Steal (53) -/
noncomputable def deque_Steal_M (C : AFun) (n : Nat) (p0_0 p0_1 : Int) (h : Hp) : Option (V × Hp) :=
callB (C 65 [.int .i64 3, .int .i64 2, .agg [.int .i64 p0_0, .int .i64 p0_1], .int .i64 0] h) fun v1 h2 =>
asAgg v1 fun l3 =>
asCons l3 fun v4 l5 =>
asInt .i64 v4 fun i6 =>
asCons l5 fun v7 l8 =>
asInt .i64 v7 fun i9 =>
asCons l8 fun v10 l11 =>
asInt .i64 v10 fun i12 =>
asCons l11 fun v13 l14 =>
asInt .i64 v13 fun i15 =>
asCons l14 fun v16 l17 =>
asInt .i64 v16 fun i18 =>
asCons l17 fun v19 l20 =>
asInt .i64 v19 fun i21 =>
asCons l20 fun v22 l23 =>
asInt .i64 v22 fun i24 =>
asCons l23 fun v25 l26 =>
asInt .i64 v25 fun i27 =>
asCons l26 fun v28 l29 =>
asInt .i64 v28 fun i30 =>
asCons l29 fun v31 l32 =>
asInt .i64 v31 fun i33 =>
asCons l32 fun v34 l35 =>
asInt .i64 v34 fun i36 =>
asCons l35 fun v37 l38 =>
asInt .i64 v37 fun i39 =>
asCons l38 fun v40 l41 =>
asInt .i64 v40 fun i42 =>
asCons l41 fun v43 l44 =>
asBool v43 fun b45 =>
asCons l44 fun v46 l47 =>
asInt .i64 v46 fun i48 =>
asCons l47 fun v49 l50 =>
asInt .i64 v49 fun i51 =>
asNil l50 (
some (.agg [.int .i64 i6, .int .i64 i9, .int .i64 i12, .int .i64 i15, .int .i64 i18, .int .i64 i21, .int .i64 i24, .int .i64 i27, .int .i64 i30, .int .i64 i33, .int .i64 i36, .int .i64 i39, .int .i64 i42, .bool b45, .int .i64 i48, .int .i64 i51], h2))
noncomputable def deque_Steal (C : AFun) (n : Nat) (p0_0 p0_1 : Int) (h : Hp) : Option (V × Hp) := deque_Steal_M C n p0_0 p0_1 h
theorem deque_Steal_eM (C : AFun) (n : Nat) (p0_0 p0_1 : Int) (h : Hp) : bodyK E C 53 n Try.f53 [.agg [.int .i64 p0_0, .int .i64 p0_1]] h = deque_Steal_M C n p0_0 p0_1 h := by kernel_rfl
theorem deque_Steal_eq (n : Nat) (p0_0 p0_1 : Int) (h : Hp) : ev E (n + 1) 53 [.agg [.int .i64 p0_0, .int .i64 p0_1]] h = deque_Steal (ev E n) n p0_0 p0_1 h := by
  rw [ev_body rfl Try.func53, deque_Steal_eM]
  rfl
/-! plunder/deque.Pop (54) -/
noncomputable def deque_Pop_M (C : AFun) (n : Nat) (p0_0 p0_1 : Int) (h : Hp) : Option (V × Hp) :=
callB (C 65 [.int .i64 2, .int .i64 1, .agg [.int .i64 p0_0, .int .i64 p0_1], .int .i64 0] h) fun v1 h2 =>
asAgg v1 fun l3 =>
asCons l3 fun v4 l5 =>
asInt .i64 v4 fun i6 =>
asCons l5 fun v7 l8 =>
asInt .i64 v7 fun i9 =>
asCons l8 fun v10 l11 =>
asInt .i64 v10 fun i12 =>
asCons l11 fun v13 l14 =>
asInt .i64 v13 fun i15 =>
asCons l14 fun v16 l17 =>
asInt .i64 v16 fun i18 =>
asCons l17 fun v19 l20 =>
asInt .i64 v19 fun i21 =>
asCons l20 fun v22 l23 =>
asInt .i64 v22 fun i24 =>
asCons l23 fun v25 l26 =>
asInt .i64 v25 fun i27 =>
asCons l26 fun v28 l29 =>
asInt .i64 v28 fun i30 =>
asCons l29 fun v31 l32 =>
asInt .i64 v31 fun i33 =>
asCons l32 fun v34 l35 =>
asInt .i64 v34 fun i36 =>
asCons l35 fun v37 l38 =>
asInt .i64 v37 fun i39 =>
asCons l38 fun v40 l41 =>
asInt .i64 v40 fun i42 =>
asCons l41 fun v43 l44 =>
asBool v43 fun b45 =>
asCons l44 fun v46 l47 =>
asInt .i64 v46 fun i48 =>
asCons l47 fun v49 l50 =>
asInt .i64 v49 fun i51 =>
asNil l50 (
some (.agg [.int .i64 i6, .int .i64 i9, .int .i64 i12, .int .i64 i15, .int .i64 i18, .int .i64 i21, .int .i64 i24, .int .i64 i27, .int .i64 i30, .int .i64 i33, .int .i64 i36, .int .i64 i39, .int .i64 i42, .bool b45, .int .i64 i48, .int .i64 i51], h2))
noncomputable def deque_Pop (C : AFun) (n : Nat) (p0_0 p0_1 : Int) (h : Hp) : Option (V × Hp) := deque_Pop_M C n p0_0 p0_1 h
theorem deque_Pop_eM (C : AFun) (n : Nat) (p0_0 p0_1 : Int) (h : Hp) : bodyK E C 54 n Try.f54 [.agg [.int .i64 p0_0, .int .i64 p0_1]] h = deque_Pop_M C n p0_0 p0_1 h := by kernel_rfl
theorem deque_Pop_eq (n : Nat) (p0_0 p0_1 : Int) (h : Hp) : ev E (n + 1) 54 [.agg [.int .i64 p0_0, .int .i64 p0_1]] h = deque_Pop (ev E n) n p0_0 p0_1 h := by
  rw [ev_body rfl Try.func54, deque_Pop_eM]
  rfl
/-! plunder/deque.Push (55) -/
noncomputable def deque_Push_M (C : AFun) (n : Nat) (p0_0 p0_1 p1 : Int) (h : Hp) : Option (V × Hp) :=
callB (C 65 [.int .i64 1, .int .i64 1, .agg [.int .i64 p0_0, .int .i64 p0_1], .int .i64 p1] h) fun v1 h2 =>
asAgg v1 fun l3 =>
asCons l3 fun v4 l5 =>
asInt .i64 v4 fun i6 =>
asCons l5 fun v7 l8 =>
asInt .i64 v7 fun i9 =>
asCons l8 fun v10 l11 =>
asInt .i64 v10 fun i12 =>
asCons l11 fun v13 l14 =>
asInt .i64 v13 fun i15 =>
asCons l14 fun v16 l17 =>
asInt .i64 v16 fun i18 =>
asCons l17 fun v19 l20 =>
asInt .i64 v19 fun i21 =>
asCons l20 fun v22 l23 =>
asInt .i64 v22 fun i24 =>
asCons l23 fun v25 l26 =>
asInt .i64 v25 fun i27 =>
asCons l26 fun v28 l29 =>
asInt .i64 v28 fun i30 =>
asCons l29 fun v31 l32 =>
asInt .i64 v31 fun i33 =>
asCons l32 fun v34 l35 =>
asInt .i64 v34 fun i36 =>
asCons l35 fun v37 l38 =>
asInt .i64 v37 fun i39 =>
asCons l38 fun v40 l41 =>
asInt .i64 v40 fun i42 =>
asCons l41 fun v43 l44 =>
asBool v43 fun b45 =>
asCons l44 fun v46 l47 =>
asInt .i64 v46 fun i48 =>
asCons l47 fun v49 l50 =>
asInt .i64 v49 fun i51 =>
asNil l50 (
some (.agg [.int .i64 i6, .int .i64 i9, .int .i64 i12, .int .i64 i15, .int .i64 i18, .int .i64 i21, .int .i64 i24, .int .i64 i27, .int .i64 i30, .int .i64 i33, .int .i64 i36, .int .i64 i39, .int .i64 i42, .bool b45, .int .i64 i48, .int .i64 i51], h2))
noncomputable def deque_Push (C : AFun) (n : Nat) (p0_0 p0_1 p1 : Int) (h : Hp) : Option (V × Hp) := deque_Push_M C n p0_0 p0_1 p1 h
theorem deque_Push_eM (C : AFun) (n : Nat) (p0_0 p0_1 p1 : Int) (h : Hp) : bodyK E C 55 n Try.f55 [.agg [.int .i64 p0_0, .int .i64 p0_1], .int .i64 p1] h = deque_Push_M C n p0_0 p0_1 p1 h := by kernel_rfl
theorem deque_Push_eq (n : Nat) (p0_0 p0_1 p1 : Int) (h : Hp) : ev E (n + 1) 55 [.agg [.int .i64 p0_0, .int .i64 p0_1], .int .i64 p1] h = deque_Push (ev E n) n p0_0 p0_1 p1 h := by
  rw [ev_body rfl Try.func55, deque_Push_eM]
  rfl
/-! (plunder/deque.Op).over (56) -/
noncomputable def deque_Op_over_M (C : AFun) (n : Nat) (p0_0 p0_1 p0_2 p0_3 p0_4 p0_5 p0_6 p0_7 p0_8 p0_9 p0_10 p0_11 p0_12 : Int) (p0_13 : Bool) (p0_14 p0_15 p1 p2 : Int) (h : Hp) : Option (V × Hp) :=
some (.agg [.int .i64 p0_0, .int .i64 0, .int .i64 p0_2, .int .i64 p0_3, .int .i64 p0_4, .int .i64 p0_5, .int .i64 p0_6, .int .i64 p0_7, .int .i64 p0_8, .int .i64 p0_9, .int .i64 p0_10, .int .i64 p0_11, .int .i64 p0_12, .bool p0_13, .int .i64 p1, .int .i64 p2], h)
noncomputable def deque_Op_over (C : AFun) (n : Nat) (p0_0 p0_1 p0_2 p0_3 p0_4 p0_5 p0_6 p0_7 p0_8 p0_9 p0_10 p0_11 p0_12 : Int) (p0_13 : Bool) (p0_14 p0_15 p1 p2 : Int) (h : Hp) : Option (V × Hp) := deque_Op_over_M C n p0_0 p0_1 p0_2 p0_3 p0_4 p0_5 p0_6 p0_7 p0_8 p0_9 p0_10 p0_11 p0_12 p0_13 p0_14 p0_15 p1 p2 h
theorem deque_Op_over_eM (C : AFun) (n : Nat) (p0_0 p0_1 p0_2 p0_3 p0_4 p0_5 p0_6 p0_7 p0_8 p0_9 p0_10 p0_11 p0_12 : Int) (p0_13 : Bool) (p0_14 p0_15 p1 p2 : Int) (h : Hp) : bodyK E C 56 n Try.f56 [.agg [.int .i64 p0_0, .int .i64 p0_1, .int .i64 p0_2, .int .i64 p0_3, .int .i64 p0_4, .int .i64 p0_5, .int .i64 p0_6, .int .i64 p0_7, .int .i64 p0_8, .int .i64 p0_9, .int .i64 p0_10, .int .i64 p0_11, .int .i64 p0_12, .bool p0_13, .int .i64 p0_14, .int .i64 p0_15], .int .i64 p1, .int .i64 p2] h = deque_Op_over_M C n p0_0 p0_1 p0_2 p0_3 p0_4 p0_5 p0_6 p0_7 p0_8 p0_9 p0_10 p0_11 p0_12 p0_13 p0_14 p0_15 p1 p2 h := by kernel_rfl
theorem deque_Op_over_eq (n : Nat) (p0_0 p0_1 p0_2 p0_3 p0_4 p0_5 p0_6 p0_7 p0_8 p0_9 p0_10 p0_11 p0_12 : Int) (p0_13 : Bool) (p0_14 p0_15 p1 p2 : Int) (h : Hp) : ev E (n + 1) 56 [.agg [.int .i64 p0_0, .int .i64 p0_1, .int .i64 p0_2, .int .i64 p0_3, .int .i64 p0_4, .int .i64 p0_5, .int .i64 p0_6, .int .i64 p0_7, .int .i64 p0_8, .int .i64 p0_9, .int .i64 p0_10, .int .i64 p0_11, .int .i64 p0_12, .bool p0_13, .int .i64 p0_14, .int .i64 p0_15], .int .i64 p1, .int .i64 p2] h = deque_Op_over (ev E n) n p0_0 p0_1 p0_2 p0_3 p0_4 p0_5 p0_6 p0_7 p0_8 p0_9 p0_10 p0_11 p0_12 p0_13 p0_14 p0_15 p1 p2 h := by
  rw [ev_body rfl Try.func56, deque_Op_over_eM]
  rfl
/-! (plunder/deque.Op).access (57) -/
noncomputable def deque_Op_access_M (C : AFun) (n : Nat) (p0_0 p0_1 p0_2 p0_3 p0_4 p0_5 p0_6 p0_7 p0_8 p0_9 p0_10 p0_11 p0_12 : Int) (p0_13 : Bool) (p0_14 p0_15 : Int) (p1 : V) (h : Hp) : Option (V × Hp) :=
cond (p0_1 == 1) (
invB prog C p1 "Load" [.int .i64 (wr .i64 (p0_2 + 1))] h fun v1 h2 =>
asTup v1 fun l3 =>
asCons l3 fun v4 l5 =>
asInt .i64 v4 fun i6 =>
asCons l5 fun v7 l8 =>
asInt .i64 v7 fun i9 =>
asNil l8 (
some (.tup [.int .i64 i6, .int .i64 i9], h2))) (
cond (p0_1 == 2) (
invB prog C p1 "Load" [.int .i64 (wr .i64 (p0_2 + 0))] h fun v10 h11 =>
asTup v10 fun l12 =>
asCons l12 fun v13 l14 =>
asInt .i64 v13 fun i15 =>
asCons l14 fun v16 l17 =>
asInt .i64 v16 fun i18 =>
asNil l17 (
some (.tup [.int .i64 i15, .int .i64 i18], h11))) (
cond (p0_1 == 3) (
invB prog C p1 "Load" [.int .i64 (wr .i64 (p0_2 + 2))] h fun v19 h20 =>
asTup v19 fun l21 =>
asCons l21 fun v22 l23 =>
asInt .i64 v22 fun i24 =>
asCons l23 fun v25 l26 =>
asInt .i64 v25 fun i27 =>
asNil l26 (
some (.tup [.int .i64 i24, .int .i64 i27], h20))) (
cond (p0_1 == 4) (
invB prog C p1 "Load" [.int .i64 p0_7] h fun v28 h29 =>
asTup v28 fun l30 =>
asCons l30 fun v31 l32 =>
asInt .i64 v31 fun i33 =>
asCons l32 fun v34 l35 =>
asInt .i64 v34 fun i36 =>
asNil l35 (
some (.tup [.int .i64 i33, .int .i64 i36], h29))) (
cond (p0_1 == 5) (
invB prog C p1 "Reserve" [.int .i64 (wr .i64 ((1 : Int) + p0_10))] h fun v37 h38 =>
asTup v37 fun l39 =>
asCons l39 fun v40 l41 =>
asInt .i64 v40 fun i42 =>
asCons l41 fun v43 l44 =>
asInt .i64 v43 fun i45 =>
asNil l44 (
some (.tup [.int .i64 i42, .int .i64 i45], h38))) (
cond (p0_1 == 6) (
invB prog C p1 "Store" [.int .i64 p0_9, .int .i64 p0_10] h fun v46 h47 =>
asInt .i64 v46 fun i48 =>
some (.tup [.int .i64 0, .int .i64 i48], h47)) (
cond (p0_1 == 7) (
methS prog "Load" p1 fun t49 v50 =>
callB (C 50 [.int .i64 p0_7, .int .i64 p0_8, .int .i64 p0_11] h) fun v51 h52 =>
asInt .i64 v51 fun i53 =>
invB prog C p1 "Load" [.int .i64 i53] h52 fun v54 h55 =>
asTup v54 fun l56 =>
asCons l56 fun v57 l58 =>
asInt .i64 v57 fun i59 =>
asCons l58 fun v60 l61 =>
asInt .i64 v60 fun i62 =>
asNil l61 (
some (.tup [.int .i64 i59, .int .i64 i62], h55))) (
cond (p0_1 == 8) (
methS prog "Store" p1 fun t63 v64 =>
callB (C 50 [.int .i64 p0_9, .int .i64 p0_10, .int .i64 p0_11] h) fun v65 h66 =>
asInt .i64 v65 fun i67 =>
sameV (.int .i64 p0_12) (.int .i64 p0_12) (
invB prog C p1 "Store" [.int .i64 i67, .int .i64 p0_12] h66 fun v68 h69 =>
asInt .i64 v68 fun i70 =>
some (.tup [.int .i64 0, .int .i64 i70], h69))) (
cond (p0_1 == 9) (
invB prog C p1 "Store" [.int .i64 (wr .i64 (p0_2 + 2)), .int .i64 p0_9] h fun v71 h72 =>
asInt .i64 v71 fun i73 =>
some (.tup [.int .i64 0, .int .i64 i73], h72)) (
cond (p0_1 == 10) (
methS prog "Store" p1 fun t74 v75 =>
callB (C 50 [.int .i64 p0_7, .int .i64 p0_8, .int .i64 p0_6] h) fun v76 h77 =>
asInt .i64 v76 fun i78 =>
sameV (.int .i64 p0_4) (.int .i64 p0_4) (
invB prog C p1 "Store" [.int .i64 i78, .int .i64 p0_4] h77 fun v79 h80 =>
asInt .i64 v79 fun i81 =>
some (.tup [.int .i64 0, .int .i64 i81], h80))) (
cond (p0_1 == 11) (
methS prog "Store" p1 fun t82 v83 =>
callB (C 66 [.agg [.int .i64 p0_0, .int .i64 p0_1, .int .i64 p0_2, .int .i64 p0_3, .int .i64 p0_4, .int .i64 p0_5, .int .i64 p0_6, .int .i64 p0_7, .int .i64 p0_8, .int .i64 p0_9, .int .i64 p0_10, .int .i64 p0_11, .int .i64 p0_12, .bool p0_13, .int .i64 p0_14, .int .i64 p0_15]] h) fun v84 h85 =>
asInt .i64 v84 fun i86 =>
invB prog C p1 "Store" [.int .i64 (wr .i64 (p0_2 + 1)), .int .i64 i86] h85 fun v87 h88 =>
asInt .i64 v87 fun i89 =>
some (.tup [.int .i64 0, .int .i64 i89], h88)) (
cond (p0_1 == 12) (
cond (p0_0 == 2) (
methS prog "Load" p1 fun t90 v91 =>
callB (C 50 [.int .i64 p0_7, .int .i64 p0_8, .int .i64 p0_6] h) fun v92 h93 =>
asInt .i64 v92 fun i94 =>
invB prog C p1 "Load" [.int .i64 i94] h93 fun v95 h96 =>
asTup v95 fun l97 =>
asCons l97 fun v98 l99 =>
asInt .i64 v98 fun i100 =>
asCons l99 fun v101 l102 =>
asInt .i64 v101 fun i103 =>
asNil l102 (
some (.tup [.int .i64 i100, .int .i64 i103], h96))) (
methS prog "Load" p1 fun t104 v105 =>
callB (C 50 [.int .i64 p0_7, .int .i64 p0_8, .int .i64 p0_5] h) fun v106 h107 =>
asInt .i64 v106 fun i108 =>
invB prog C p1 "Load" [.int .i64 i108] h107 fun v109 h110 =>
asTup v109 fun l111 =>
asCons l111 fun v112 l113 =>
asInt .i64 v112 fun i114 =>
asCons l113 fun v115 l116 =>
asInt .i64 v115 fun i117 =>
asNil l116 (
some (.tup [.int .i64 i114, .int .i64 i117], h110)))) (
invB prog C p1 "CAS" [.int .i64 (wr .i64 (p0_2 + 0)), .int .i64 p0_5, .int .i64 (wr .i64 (p0_5 + 1))] h fun v118 h119 =>
asTup v118 fun l120 =>
asCons l120 fun v121 l122 =>
asBool v121 fun b123 =>
asCons l122 fun v124 l125 =>
asInt .i64 v124 fun i126 =>
asNil l125 (
cond b123 (
some (.tup [.int .i64 1, .int .i64 i126], h119)) (
some (.tup [.int .i64 0, .int .i64 i126], h119)))))))))))))))
noncomputable def deque_Op_access (C : AFun) (n : Nat) (p0_0 p0_1 p0_2 p0_3 p0_4 p0_5 p0_6 p0_7 p0_8 p0_9 p0_10 p0_11 p0_12 : Int) (p0_13 : Bool) (p0_14 p0_15 : Int) (p1 : V) (h : Hp) : Option (V × Hp) := deque_Op_access_M C n p0_0 p0_1 p0_2 p0_3 p0_4 p0_5 p0_6 p0_7 p0_8 p0_9 p0_10 p0_11 p0_12 p0_13 p0_14 p0_15 p1 h
theorem deque_Op_access_eM (C : AFun) (n : Nat) (p0_0 p0_1 p0_2 p0_3 p0_4 p0_5 p0_6 p0_7 p0_8 p0_9 p0_10 p0_11 p0_12 : Int) (p0_13 : Bool) (p0_14 p0_15 : Int) (p1 : V) (h : Hp) : bodyK E C 57 n Try.f57 [.agg [.int .i64 p0_0, .int .i64 p0_1, .int .i64 p0_2, .int .i64 p0_3, .int .i64 p0_4, .int .i64 p0_5, .int .i64 p0_6, .int .i64 p0_7, .int .i64 p0_8, .int .i64 p0_9, .int .i64 p0_10, .int .i64 p0_11, .int .i64 p0_12, .bool p0_13, .int .i64 p0_14, .int .i64 p0_15], p1] h = deque_Op_access_M C n p0_0 p0_1 p0_2 p0_3 p0_4 p0_5 p0_6 p0_7 p0_8 p0_9 p0_10 p0_11 p0_12 p0_13 p0_14 p0_15 p1 h := by kernel_rfl
theorem deque_Op_access_eq (n : Nat) (p0_0 p0_1 p0_2 p0_3 p0_4 p0_5 p0_6 p0_7 p0_8 p0_9 p0_10 p0_11 p0_12 : Int) (p0_13 : Bool) (p0_14 p0_15 : Int) (p1 : V) (h : Hp) : ev E (n + 1) 57 [.agg [.int .i64 p0_0, .int .i64 p0_1, .int .i64 p0_2, .int .i64 p0_3, .int .i64 p0_4, .int .i64 p0_5, .int .i64 p0_6, .int .i64 p0_7, .int .i64 p0_8, .int .i64 p0_9, .int .i64 p0_10, .int .i64 p0_11, .int .i64 p0_12, .bool p0_13, .int .i64 p0_14, .int .i64 p0_15], p1] h = deque_Op_access (ev E n) n p0_0 p0_1 p0_2 p0_3 p0_4 p0_5 p0_6 p0_7 p0_8 p0_9 p0_10 p0_11 p0_12 p0_13 p0_14 p0_15 p1 h := by
  rw [ev_body rfl Try.func57, deque_Op_access_eM]
  rfl
/-! (plunder/deque.Op).pushed (58) -/
noncomputable def deque_Op_pushed_M (C : AFun) (n : Nat) (p0_0 p0_1 p0_2 p0_3 p0_4 p0_5 p0_6 p0_7 p0_8 p0_9 p0_10 p0_11 p0_12 : Int) (p0_13 : Bool) (p0_14 p0_15 p1 : Int) (h : Hp) : Option (V × Hp) :=
cond (p0_1 == 1) (
some (.agg [.int .i64 p0_0, .int .i64 2, .int .i64 p0_2, .int .i64 p0_3, .int .i64 p0_4, .int .i64 p0_5, .int .i64 p1, .int .i64 p0_7, .int .i64 p0_8, .int .i64 p0_9, .int .i64 p0_10, .int .i64 p0_11, .int .i64 p0_12, .bool p0_13, .int .i64 p0_14, .int .i64 p0_15], h)) (
cond (p0_1 == 2) (
some (.agg [.int .i64 p0_0, .int .i64 3, .int .i64 p0_2, .int .i64 p0_3, .int .i64 p0_4, .int .i64 p1, .int .i64 p0_6, .int .i64 p0_7, .int .i64 p0_8, .int .i64 p0_9, .int .i64 p0_10, .int .i64 p0_11, .int .i64 p0_12, .bool p0_13, .int .i64 p0_14, .int .i64 p0_15], h)) (
cond (p0_1 == 3) (
some (.agg [.int .i64 p0_0, .int .i64 4, .int .i64 p0_2, .int .i64 p0_3, .int .i64 p0_4, .int .i64 p0_5, .int .i64 p0_6, .int .i64 p1, .int .i64 p0_8, .int .i64 p0_9, .int .i64 p0_10, .int .i64 p0_11, .int .i64 p0_12, .bool p0_13, .int .i64 p0_14, .int .i64 p0_15], h)) (
cond (p0_1 == 4) (
cond (decide (p1 < 1)) (
callB (C 56 [.agg [.int .i64 p0_0, .int .i64 10, .int .i64 p0_2, .int .i64 p0_3, .int .i64 p0_4, .int .i64 p0_5, .int .i64 p0_6, .int .i64 p0_7, .int .i64 p1, .int .i64 p0_9, .int .i64 p0_10, .int .i64 p0_11, .int .i64 p0_12, .bool p0_13, .int .i64 p0_14, .int .i64 p0_15], .int .i64 1, .int .i64 0] h) fun v1 h2 =>
asAgg v1 fun l3 =>
asCons l3 fun v4 l5 =>
asInt .i64 v4 fun i6 =>
asCons l5 fun v7 l8 =>
asInt .i64 v7 fun i9 =>
asCons l8 fun v10 l11 =>
asInt .i64 v10 fun i12 =>
asCons l11 fun v13 l14 =>
asInt .i64 v13 fun i15 =>
asCons l14 fun v16 l17 =>
asInt .i64 v16 fun i18 =>
asCons l17 fun v19 l20 =>
asInt .i64 v19 fun i21 =>
asCons l20 fun v22 l23 =>
asInt .i64 v22 fun i24 =>
asCons l23 fun v25 l26 =>
asInt .i64 v25 fun i27 =>
asCons l26 fun v28 l29 =>
asInt .i64 v28 fun i30 =>
asCons l29 fun v31 l32 =>
asInt .i64 v31 fun i33 =>
asCons l32 fun v34 l35 =>
asInt .i64 v34 fun i36 =>
asCons l35 fun v37 l38 =>
asInt .i64 v37 fun i39 =>
asCons l38 fun v40 l41 =>
asInt .i64 v40 fun i42 =>
asCons l41 fun v43 l44 =>
asBool v43 fun b45 =>
asCons l44 fun v46 l47 =>
asInt .i64 v46 fun i48 =>
asCons l47 fun v49 l50 =>
asInt .i64 v49 fun i51 =>
asNil l50 (
some (.agg [.int .i64 i6, .int .i64 i9, .int .i64 i12, .int .i64 i15, .int .i64 i18, .int .i64 i21, .int .i64 i24, .int .i64 i27, .int .i64 i30, .int .i64 i33, .int .i64 i36, .int .i64 i39, .int .i64 i42, .bool b45, .int .i64 i48, .int .i64 i51], h2))) (
cond (decide ((wr .i64 (p0_6 - p0_5)) < p1)) (
some (.agg [.int .i64 p0_0, .int .i64 10, .int .i64 p0_2, .int .i64 p0_3, .int .i64 p0_4, .int .i64 p0_5, .int .i64 p0_6, .int .i64 p0_7, .int .i64 p1, .int .i64 p0_9, .int .i64 p0_10, .int .i64 p0_11, .int .i64 p0_12, .bool p0_13, .int .i64 p0_14, .int .i64 p0_15], h)) (
cond (decide (p1 ≥ p0_3)) (
callB (C 56 [.agg [.int .i64 p0_0, .int .i64 10, .int .i64 p0_2, .int .i64 p0_3, .int .i64 p0_4, .int .i64 p0_5, .int .i64 p0_6, .int .i64 p0_7, .int .i64 p1, .int .i64 p0_9, .int .i64 p0_10, .int .i64 p0_11, .int .i64 p0_12, .bool p0_13, .int .i64 p0_14, .int .i64 p0_15], .int .i64 3, .int .i64 0] h) fun v52 h53 =>
asAgg v52 fun l54 =>
asCons l54 fun v55 l56 =>
asInt .i64 v55 fun i57 =>
asCons l56 fun v58 l59 =>
asInt .i64 v58 fun i60 =>
asCons l59 fun v61 l62 =>
asInt .i64 v61 fun i63 =>
asCons l62 fun v64 l65 =>
asInt .i64 v64 fun i66 =>
asCons l65 fun v67 l68 =>
asInt .i64 v67 fun i69 =>
asCons l68 fun v70 l71 =>
asInt .i64 v70 fun i72 =>
asCons l71 fun v73 l74 =>
asInt .i64 v73 fun i75 =>
asCons l74 fun v76 l77 =>
asInt .i64 v76 fun i78 =>
asCons l77 fun v79 l80 =>
asInt .i64 v79 fun i81 =>
asCons l80 fun v82 l83 =>
asInt .i64 v82 fun i84 =>
asCons l83 fun v85 l86 =>
asInt .i64 v85 fun i87 =>
asCons l86 fun v88 l89 =>
asInt .i64 v88 fun i90 =>
asCons l89 fun v91 l92 =>
asInt .i64 v91 fun i93 =>
asCons l92 fun v94 l95 =>
asBool v94 fun b96 =>
asCons l95 fun v97 l98 =>
asInt .i64 v97 fun i99 =>
asCons l98 fun v100 l101 =>
asInt .i64 v100 fun i102 =>
asNil l101 (
some (.agg [.int .i64 i57, .int .i64 i60, .int .i64 i63, .int .i64 i66, .int .i64 i69, .int .i64 i72, .int .i64 i75, .int .i64 i78, .int .i64 i81, .int .i64 i84, .int .i64 i87, .int .i64 i90, .int .i64 i93, .bool b96, .int .i64 i99, .int .i64 i102], h53))) (
some (.agg [.int .i64 p0_0, .int .i64 5, .int .i64 p0_2, .int .i64 p0_3, .int .i64 p0_4, .int .i64 p0_5, .int .i64 p0_6, .int .i64 p0_7, .int .i64 p1, .int .i64 p0_9, .int .i64 (if p0_3 < (wr .i64 ((2 : Int) * p1)) then p0_3 else (wr .i64 ((2 : Int) * p1))), .int .i64 p0_11, .int .i64 p0_12, .bool p0_13, .int .i64 p0_14, .int .i64 p0_15], h))))) (
cond (p0_1 == 5) (
some (.agg [.int .i64 p0_0, .int .i64 6, .int .i64 p0_2, .int .i64 p0_3, .int .i64 p0_4, .int .i64 p0_5, .int .i64 p0_6, .int .i64 p0_7, .int .i64 p0_8, .int .i64 p1, .int .i64 p0_10, .int .i64 p0_11, .int .i64 p0_12, .bool p0_13, .int .i64 p0_14, .int .i64 p0_15], h)) (
cond (p0_1 == 6) (
some (.agg [.int .i64 p0_0, .int .i64 7, .int .i64 p0_2, .int .i64 p0_3, .int .i64 p0_4, .int .i64 p0_5, .int .i64 p0_6, .int .i64 p0_7, .int .i64 p0_8, .int .i64 p0_9, .int .i64 p0_10, .int .i64 p0_5, .int .i64 p0_12, .bool p0_13, .int .i64 p0_14, .int .i64 p0_15], h)) (
cond (p0_1 == 7) (
some (.agg [.int .i64 p0_0, .int .i64 8, .int .i64 p0_2, .int .i64 p0_3, .int .i64 p0_4, .int .i64 p0_5, .int .i64 p0_6, .int .i64 p0_7, .int .i64 p0_8, .int .i64 p0_9, .int .i64 p0_10, .int .i64 p0_11, .int .i64 p1, .bool p0_13, .int .i64 p0_14, .int .i64 p0_15], h)) (
cond (p0_1 == 8) (
cond ((wr .i64 (p0_11 + 1)) == p0_6) (
some (.agg [.int .i64 p0_0, .int .i64 9, .int .i64 p0_2, .int .i64 p0_3, .int .i64 p0_4, .int .i64 p0_5, .int .i64 p0_6, .int .i64 p0_7, .int .i64 p0_8, .int .i64 p0_9, .int .i64 p0_10, .int .i64 (wr .i64 (p0_11 + 1)), .int .i64 p0_12, .bool p0_13, .int .i64 p0_14, .int .i64 p0_15], h)) (
some (.agg [.int .i64 p0_0, .int .i64 7, .int .i64 p0_2, .int .i64 p0_3, .int .i64 p0_4, .int .i64 p0_5, .int .i64 p0_6, .int .i64 p0_7, .int .i64 p0_8, .int .i64 p0_9, .int .i64 p0_10, .int .i64 (wr .i64 (p0_11 + 1)), .int .i64 p0_12, .bool p0_13, .int .i64 p0_14, .int .i64 p0_15], h))) (
cond (p0_1 == 9) (
some (.agg [.int .i64 p0_0, .int .i64 10, .int .i64 p0_2, .int .i64 p0_3, .int .i64 p0_4, .int .i64 p0_5, .int .i64 p0_6, .int .i64 p0_9, .int .i64 p0_10, .int .i64 p0_9, .int .i64 p0_10, .int .i64 p0_11, .int .i64 p0_12, .bool p0_13, .int .i64 p0_14, .int .i64 p0_15], h)) (
cond (p0_1 == 10) (
some (.agg [.int .i64 p0_0, .int .i64 11, .int .i64 p0_2, .int .i64 p0_3, .int .i64 p0_4, .int .i64 p0_5, .int .i64 p0_6, .int .i64 p0_7, .int .i64 p0_8, .int .i64 p0_9, .int .i64 p0_10, .int .i64 p0_11, .int .i64 p0_12, .bool p0_13, .int .i64 p0_14, .int .i64 p0_15], h)) (
cond (p0_1 == 11) (
callB (C 56 [.agg [.int .i64 p0_0, .int .i64 p0_1, .int .i64 p0_2, .int .i64 p0_3, .int .i64 p0_4, .int .i64 p0_5, .int .i64 p0_6, .int .i64 p0_7, .int .i64 p0_8, .int .i64 p0_9, .int .i64 p0_10, .int .i64 p0_11, .int .i64 p0_12, .bool p0_13, .int .i64 p0_14, .int .i64 p0_15], .int .i64 2, .int .i64 0] h) fun v103 h104 =>
asAgg v103 fun l105 =>
asCons l105 fun v106 l107 =>
asInt .i64 v106 fun i108 =>
asCons l107 fun v109 l110 =>
asInt .i64 v109 fun i111 =>
asCons l110 fun v112 l113 =>
asInt .i64 v112 fun i114 =>
asCons l113 fun v115 l116 =>
asInt .i64 v115 fun i117 =>
asCons l116 fun v118 l119 =>
asInt .i64 v118 fun i120 =>
asCons l119 fun v121 l122 =>
asInt .i64 v121 fun i123 =>
asCons l122 fun v124 l125 =>
asInt .i64 v124 fun i126 =>
asCons l125 fun v127 l128 =>
asInt .i64 v127 fun i129 =>
asCons l128 fun v130 l131 =>
asInt .i64 v130 fun i132 =>
asCons l131 fun v133 l134 =>
asInt .i64 v133 fun i135 =>
asCons l134 fun v136 l137 =>
asInt .i64 v136 fun i138 =>
asCons l137 fun v139 l140 =>
asInt .i64 v139 fun i141 =>
asCons l140 fun v142 l143 =>
asInt .i64 v142 fun i144 =>
asCons l143 fun v145 l146 =>
asBool v145 fun b147 =>
asCons l146 fun v148 l149 =>
asInt .i64 v148 fun i150 =>
asCons l149 fun v151 l152 =>
asInt .i64 v151 fun i153 =>
asNil l152 (
some (.agg [.int .i64 i108, .int .i64 i111, .int .i64 i114, .int .i64 i117, .int .i64 i120, .int .i64 i123, .int .i64 i126, .int .i64 i129, .int .i64 i132, .int .i64 i135, .int .i64 i138, .int .i64 i141, .int .i64 i144, .bool b147, .int .i64 i150, .int .i64 i153], h104))) (
some (.agg [.int .i64 p0_0, .int .i64 p0_1, .int .i64 p0_2, .int .i64 p0_3, .int .i64 p0_4, .int .i64 p0_5, .int .i64 p0_6, .int .i64 p0_7, .int .i64 p0_8, .int .i64 p0_9, .int .i64 p0_10, .int .i64 p0_11, .int .i64 p0_12, .bool p0_13, .int .i64 p0_14, .int .i64 p0_15], h))))))))))))
noncomputable def deque_Op_pushed (C : AFun) (n : Nat) (p0_0 p0_1 p0_2 p0_3 p0_4 p0_5 p0_6 p0_7 p0_8 p0_9 p0_10 p0_11 p0_12 : Int) (p0_13 : Bool) (p0_14 p0_15 p1 : Int) (h : Hp) : Option (V × Hp) := deque_Op_pushed_M C n p0_0 p0_1 p0_2 p0_3 p0_4 p0_5 p0_6 p0_7 p0_8 p0_9 p0_10 p0_11 p0_12 p0_13 p0_14 p0_15 p1 h
theorem deque_Op_pushed_eM (C : AFun) (n : Nat) (p0_0 p0_1 p0_2 p0_3 p0_4 p0_5 p0_6 p0_7 p0_8 p0_9 p0_10 p0_11 p0_12 : Int) (p0_13 : Bool) (p0_14 p0_15 p1 : Int) (h : Hp) : bodyK E C 58 n Try.f58 [.agg [.int .i64 p0_0, .int .i64 p0_1, .int .i64 p0_2, .int .i64 p0_3, .int .i64 p0_4, .int .i64 p0_5, .int .i64 p0_6, .int .i64 p0_7, .int .i64 p0_8, .int .i64 p0_9, .int .i64 p0_10, .int .i64 p0_11, .int .i64 p0_12, .bool p0_13, .int .i64 p0_14, .int .i64 p0_15], .int .i64 p1] h = deque_Op_pushed_M C n p0_0 p0_1 p0_2 p0_3 p0_4 p0_5 p0_6 p0_7 p0_8 p0_9 p0_10 p0_11 p0_12 p0_13 p0_14 p0_15 p1 h := by kernel_rfl
theorem deque_Op_pushed_eq (n : Nat) (p0_0 p0_1 p0_2 p0_3 p0_4 p0_5 p0_6 p0_7 p0_8 p0_9 p0_10 p0_11 p0_12 : Int) (p0_13 : Bool) (p0_14 p0_15 p1 : Int) (h : Hp) : ev E (n + 1) 58 [.agg [.int .i64 p0_0, .int .i64 p0_1, .int .i64 p0_2, .int .i64 p0_3, .int .i64 p0_4, .int .i64 p0_5, .int .i64 p0_6, .int .i64 p0_7, .int .i64 p0_8, .int .i64 p0_9, .int .i64 p0_10, .int .i64 p0_11, .int .i64 p0_12, .bool p0_13, .int .i64 p0_14, .int .i64 p0_15], .int .i64 p1] h = deque_Op_pushed (ev E n) n p0_0 p0_1 p0_2 p0_3 p0_4 p0_5 p0_6 p0_7 p0_8 p0_9 p0_10 p0_11 p0_12 p0_13 p0_14 p0_15 p1 h := by
  rw [ev_body rfl Try.func58, deque_Op_pushed_eM]
  rfl
/-! (plunder/deque.Op).popped (59) -/
noncomputable def deque_Op_popped_M (C : AFun) (n : Nat) (p0_0 p0_1 p0_2 p0_3 p0_4 p0_5 p0_6 p0_7 p0_8 p0_9 p0_10 p0_11 p0_12 : Int) (p0_13 : Bool) (p0_14 p0_15 p1 : Int) (h : Hp) : Option (V × Hp) :=
cond (p0_1 == 1) (
some (.agg [.int .i64 p0_0, .int .i64 3, .int .i64 p0_2, .int .i64 p0_3, .int .i64 p0_4, .int .i64 p0_5, .int .i64 (wr .i64 (p1 - 1)), .int .i64 p0_7, .int .i64 p0_8, .int .i64 p0_9, .int .i64 p0_10, .int .i64 p0_11, .int .i64 p0_12, .bool p0_13, .int .i64 p0_14, .int .i64 p0_15], h)) (
cond (p0_1 == 3) (
some (.agg [.int .i64 p0_0, .int .i64 11, .int .i64 p0_2, .int .i64 p0_3, .int .i64 p0_4, .int .i64 p0_5, .int .i64 p0_6, .int .i64 p1, .int .i64 p0_8, .int .i64 p0_9, .int .i64 p0_10, .int .i64 p0_11, .int .i64 p0_12, .bool p0_13, .int .i64 p0_14, .int .i64 p0_15], h)) (
cond (p0_1 == 11) (
cond (p0_11 == 0) (
some (.agg [.int .i64 p0_0, .int .i64 2, .int .i64 p0_2, .int .i64 p0_3, .int .i64 p0_4, .int .i64 p0_5, .int .i64 p0_6, .int .i64 p0_7, .int .i64 p0_8, .int .i64 p0_9, .int .i64 p0_10, .int .i64 p0_11, .int .i64 p0_12, .bool p0_13, .int .i64 p0_14, .int .i64 p0_15], h)) (
cond p0_13 (
callB (C 56 [.agg [.int .i64 p0_0, .int .i64 p0_1, .int .i64 p0_2, .int .i64 p0_3, .int .i64 p0_4, .int .i64 p0_5, .int .i64 p0_6, .int .i64 p0_7, .int .i64 p0_8, .int .i64 p0_9, .int .i64 p0_10, .int .i64 p0_11, .int .i64 p0_12, .bool p0_13, .int .i64 p0_14, .int .i64 p0_15], .int .i64 4, .int .i64 p0_12] h) fun v1 h2 =>
asAgg v1 fun l3 =>
asCons l3 fun v4 l5 =>
asInt .i64 v4 fun i6 =>
asCons l5 fun v7 l8 =>
asInt .i64 v7 fun i9 =>
asCons l8 fun v10 l11 =>
asInt .i64 v10 fun i12 =>
asCons l11 fun v13 l14 =>
asInt .i64 v13 fun i15 =>
asCons l14 fun v16 l17 =>
asInt .i64 v16 fun i18 =>
asCons l17 fun v19 l20 =>
asInt .i64 v19 fun i21 =>
asCons l20 fun v22 l23 =>
asInt .i64 v22 fun i24 =>
asCons l23 fun v25 l26 =>
asInt .i64 v25 fun i27 =>
asCons l26 fun v28 l29 =>
asInt .i64 v28 fun i30 =>
asCons l29 fun v31 l32 =>
asInt .i64 v31 fun i33 =>
asCons l32 fun v34 l35 =>
asInt .i64 v34 fun i36 =>
asCons l35 fun v37 l38 =>
asInt .i64 v37 fun i39 =>
asCons l38 fun v40 l41 =>
asInt .i64 v40 fun i42 =>
asCons l41 fun v43 l44 =>
asBool v43 fun b45 =>
asCons l44 fun v46 l47 =>
asInt .i64 v46 fun i48 =>
asCons l47 fun v49 l50 =>
asInt .i64 v49 fun i51 =>
asNil l50 (
some (.agg [.int .i64 i6, .int .i64 i9, .int .i64 i12, .int .i64 i15, .int .i64 i18, .int .i64 i21, .int .i64 i24, .int .i64 i27, .int .i64 i30, .int .i64 i33, .int .i64 i36, .int .i64 i39, .int .i64 i42, .bool b45, .int .i64 i48, .int .i64 i51], h2))) (
callB (C 56 [.agg [.int .i64 p0_0, .int .i64 p0_1, .int .i64 p0_2, .int .i64 p0_3, .int .i64 p0_4, .int .i64 p0_5, .int .i64 p0_6, .int .i64 p0_7, .int .i64 p0_8, .int .i64 p0_9, .int .i64 p0_10, .int .i64 p0_11, .int .i64 p0_12, .bool p0_13, .int .i64 p0_14, .int .i64 p0_15], .int .i64 5, .int .i64 0] h) fun v52 h53 =>
asAgg v52 fun l54 =>
asCons l54 fun v55 l56 =>
asInt .i64 v55 fun i57 =>
asCons l56 fun v58 l59 =>
asInt .i64 v58 fun i60 =>
asCons l59 fun v61 l62 =>
asInt .i64 v61 fun i63 =>
asCons l62 fun v64 l65 =>
asInt .i64 v64 fun i66 =>
asCons l65 fun v67 l68 =>
asInt .i64 v67 fun i69 =>
asCons l68 fun v70 l71 =>
asInt .i64 v70 fun i72 =>
asCons l71 fun v73 l74 =>
asInt .i64 v73 fun i75 =>
asCons l74 fun v76 l77 =>
asInt .i64 v76 fun i78 =>
asCons l77 fun v79 l80 =>
asInt .i64 v79 fun i81 =>
asCons l80 fun v82 l83 =>
asInt .i64 v82 fun i84 =>
asCons l83 fun v85 l86 =>
asInt .i64 v85 fun i87 =>
asCons l86 fun v88 l89 =>
asInt .i64 v88 fun i90 =>
asCons l89 fun v91 l92 =>
asInt .i64 v91 fun i93 =>
asCons l92 fun v94 l95 =>
asBool v94 fun b96 =>
asCons l95 fun v97 l98 =>
asInt .i64 v97 fun i99 =>
asCons l98 fun v100 l101 =>
asInt .i64 v100 fun i102 =>
asNil l101 (
some (.agg [.int .i64 i57, .int .i64 i60, .int .i64 i63, .int .i64 i66, .int .i64 i69, .int .i64 i72, .int .i64 i75, .int .i64 i78, .int .i64 i81, .int .i64 i84, .int .i64 i87, .int .i64 i90, .int .i64 i93, .bool b96, .int .i64 i99, .int .i64 i102], h53))))) (
cond (p0_1 == 2) (
cond (decide (p1 > p0_6)) (
some (.agg [.int .i64 p0_0, .int .i64 11, .int .i64 p0_2, .int .i64 p0_3, .int .i64 p0_4, .int .i64 p1, .int .i64 p0_6, .int .i64 p0_7, .int .i64 p0_8, .int .i64 p0_9, .int .i64 p0_10, .int .i64 1, .int .i64 p0_12, .bool p0_13, .int .i64 p0_14, .int .i64 p0_15], h)) (
some (.agg [.int .i64 p0_0, .int .i64 4, .int .i64 p0_2, .int .i64 p0_3, .int .i64 p0_4, .int .i64 p1, .int .i64 p0_6, .int .i64 p0_7, .int .i64 p0_8, .int .i64 p0_9, .int .i64 p0_10, .int .i64 1, .int .i64 p0_12, .bool p0_13, .int .i64 p0_14, .int .i64 p0_15], h))) (
cond (p0_1 == 4) (
cond (decide (p1 < 1)) (
callB (C 56 [.agg [.int .i64 p0_0, .int .i64 12, .int .i64 p0_2, .int .i64 p0_3, .int .i64 p0_4, .int .i64 p0_5, .int .i64 p0_6, .int .i64 p0_7, .int .i64 p1, .int .i64 p0_9, .int .i64 p0_10, .int .i64 p0_11, .int .i64 p0_12, .bool p0_13, .int .i64 p0_14, .int .i64 p0_15], .int .i64 1, .int .i64 0] h) fun v103 h104 =>
asAgg v103 fun l105 =>
asCons l105 fun v106 l107 =>
asInt .i64 v106 fun i108 =>
asCons l107 fun v109 l110 =>
asInt .i64 v109 fun i111 =>
asCons l110 fun v112 l113 =>
asInt .i64 v112 fun i114 =>
asCons l113 fun v115 l116 =>
asInt .i64 v115 fun i117 =>
asCons l116 fun v118 l119 =>
asInt .i64 v118 fun i120 =>
asCons l119 fun v121 l122 =>
asInt .i64 v121 fun i123 =>
asCons l122 fun v124 l125 =>
asInt .i64 v124 fun i126 =>
asCons l125 fun v127 l128 =>
asInt .i64 v127 fun i129 =>
asCons l128 fun v130 l131 =>
asInt .i64 v130 fun i132 =>
asCons l131 fun v133 l134 =>
asInt .i64 v133 fun i135 =>
asCons l134 fun v136 l137 =>
asInt .i64 v136 fun i138 =>
asCons l137 fun v139 l140 =>
asInt .i64 v139 fun i141 =>
asCons l140 fun v142 l143 =>
asInt .i64 v142 fun i144 =>
asCons l143 fun v145 l146 =>
asBool v145 fun b147 =>
asCons l146 fun v148 l149 =>
asInt .i64 v148 fun i150 =>
asCons l149 fun v151 l152 =>
asInt .i64 v151 fun i153 =>
asNil l152 (
some (.agg [.int .i64 i108, .int .i64 i111, .int .i64 i114, .int .i64 i117, .int .i64 i120, .int .i64 i123, .int .i64 i126, .int .i64 i129, .int .i64 i132, .int .i64 i135, .int .i64 i138, .int .i64 i141, .int .i64 i144, .bool b147, .int .i64 i150, .int .i64 i153], h104))) (
some (.agg [.int .i64 p0_0, .int .i64 12, .int .i64 p0_2, .int .i64 p0_3, .int .i64 p0_4, .int .i64 p0_5, .int .i64 p0_6, .int .i64 p0_7, .int .i64 p1, .int .i64 p0_9, .int .i64 p0_10, .int .i64 p0_11, .int .i64 p0_12, .bool p0_13, .int .i64 p0_14, .int .i64 p0_15], h))) (
cond (p0_1 == 12) (
cond (decide (p0_5 < p0_6)) (
callB (C 56 [.agg [.int .i64 p0_0, .int .i64 13, .int .i64 p0_2, .int .i64 p0_3, .int .i64 p0_4, .int .i64 p0_5, .int .i64 p0_6, .int .i64 p0_7, .int .i64 p0_8, .int .i64 p0_9, .int .i64 p0_10, .int .i64 p0_11, .int .i64 p1, .bool p0_13, .int .i64 p0_14, .int .i64 p0_15], .int .i64 4, .int .i64 p1] h) fun v154 h155 =>
asAgg v154 fun l156 =>
asCons l156 fun v157 l158 =>
asInt .i64 v157 fun i159 =>
asCons l158 fun v160 l161 =>
asInt .i64 v160 fun i162 =>
asCons l161 fun v163 l164 =>
asInt .i64 v163 fun i165 =>
asCons l164 fun v166 l167 =>
asInt .i64 v166 fun i168 =>
asCons l167 fun v169 l170 =>
asInt .i64 v169 fun i171 =>
asCons l170 fun v172 l173 =>
asInt .i64 v172 fun i174 =>
asCons l173 fun v175 l176 =>
asInt .i64 v175 fun i177 =>
asCons l176 fun v178 l179 =>
asInt .i64 v178 fun i180 =>
asCons l179 fun v181 l182 =>
asInt .i64 v181 fun i183 =>
asCons l182 fun v184 l185 =>
asInt .i64 v184 fun i186 =>
asCons l185 fun v187 l188 =>
asInt .i64 v187 fun i189 =>
asCons l188 fun v190 l191 =>
asInt .i64 v190 fun i192 =>
asCons l191 fun v193 l194 =>
asInt .i64 v193 fun i195 =>
asCons l194 fun v196 l197 =>
asBool v196 fun b198 =>
asCons l197 fun v199 l200 =>
asInt .i64 v199 fun i201 =>
asCons l200 fun v202 l203 =>
asInt .i64 v202 fun i204 =>
asNil l203 (
some (.agg [.int .i64 i159, .int .i64 i162, .int .i64 i165, .int .i64 i168, .int .i64 i171, .int .i64 i174, .int .i64 i177, .int .i64 i180, .int .i64 i183, .int .i64 i186, .int .i64 i189, .int .i64 i192, .int .i64 i195, .bool b198, .int .i64 i201, .int .i64 i204], h155))) (
some (.agg [.int .i64 p0_0, .int .i64 13, .int .i64 p0_2, .int .i64 p0_3, .int .i64 p0_4, .int .i64 p0_5, .int .i64 p0_6, .int .i64 p0_7, .int .i64 p0_8, .int .i64 p0_9, .int .i64 p0_10, .int .i64 p0_11, .int .i64 p1, .bool p0_13, .int .i64 p0_14, .int .i64 p0_15], h))) (
cond (p0_1 == 13) (
some (.agg [.int .i64 p0_0, .int .i64 11, .int .i64 p0_2, .int .i64 p0_3, .int .i64 p0_4, .int .i64 p0_5, .int .i64 p0_6, .int .i64 p0_7, .int .i64 p0_8, .int .i64 p0_9, .int .i64 p0_10, .int .i64 p0_11, .int .i64 p0_12, .bool (p1 == 1), .int .i64 p0_14, .int .i64 p0_15], h)) (
some (.agg [.int .i64 p0_0, .int .i64 p0_1, .int .i64 p0_2, .int .i64 p0_3, .int .i64 p0_4, .int .i64 p0_5, .int .i64 p0_6, .int .i64 p0_7, .int .i64 p0_8, .int .i64 p0_9, .int .i64 p0_10, .int .i64 p0_11, .int .i64 p0_12, .bool p0_13, .int .i64 p0_14, .int .i64 p0_15], h))))))))
noncomputable def deque_Op_popped (C : AFun) (n : Nat) (p0_0 p0_1 p0_2 p0_3 p0_4 p0_5 p0_6 p0_7 p0_8 p0_9 p0_10 p0_11 p0_12 : Int) (p0_13 : Bool) (p0_14 p0_15 p1 : Int) (h : Hp) : Option (V × Hp) := deque_Op_popped_M C n p0_0 p0_1 p0_2 p0_3 p0_4 p0_5 p0_6 p0_7 p0_8 p0_9 p0_10 p0_11 p0_12 p0_13 p0_14 p0_15 p1 h
theorem deque_Op_popped_eM (C : AFun) (n : Nat) (p0_0 p0_1 p0_2 p0_3 p0_4 p0_5 p0_6 p0_7 p0_8 p0_9 p0_10 p0_11 p0_12 : Int) (p0_13 : Bool) (p0_14 p0_15 p1 : Int) (h : Hp) : bodyK E C 59 n Try.f59 [.agg [.int .i64 p0_0, .int .i64 p0_1, .int .i64 p0_2, .int .i64 p0_3, .int .i64 p0_4, .int .i64 p0_5, .int .i64 p0_6, .int .i64 p0_7, .int .i64 p0_8, .int .i64 p0_9, .int .i64 p0_10, .int .i64 p0_11, .int .i64 p0_12, .bool p0_13, .int .i64 p0_14, .int .i64 p0_15], .int .i64 p1] h = deque_Op_popped_M C n p0_0 p0_1 p0_2 p0_3 p0_4 p0_5 p0_6 p0_7 p0_8 p0_9 p0_10 p0_11 p0_12 p0_13 p0_14 p0_15 p1 h := by kernel_rfl
theorem deque_Op_popped_eq (n : Nat) (p0_0 p0_1 p0_2 p0_3 p0_4 p0_5 p0_6 p0_7 p0_8 p0_9 p0_10 p0_11 p0_12 : Int) (p0_13 : Bool) (p0_14 p0_15 p1 : Int) (h : Hp) : ev E (n + 1) 59 [.agg [.int .i64 p0_0, .int .i64 p0_1, .int .i64 p0_2, .int .i64 p0_3, .int .i64 p0_4, .int .i64 p0_5, .int .i64 p0_6, .int .i64 p0_7, .int .i64 p0_8, .int .i64 p0_9, .int .i64 p0_10, .int .i64 p0_11, .int .i64 p0_12, .bool p0_13, .int .i64 p0_14, .int .i64 p0_15], .int .i64 p1] h = deque_Op_popped (ev E n) n p0_0 p0_1 p0_2 p0_3 p0_4 p0_5 p0_6 p0_7 p0_8 p0_9 p0_10 p0_11 p0_12 p0_13 p0_14 p0_15 p1 h := by
  rw [ev_body rfl Try.func59, deque_Op_popped_eM]
  rfl
/-! (plunder/deque.Op).stolen (60) -/
noncomputable def deque_Op_stolen_M (C : AFun) (n : Nat) (p0_0 p0_1 p0_2 p0_3 p0_4 p0_5 p0_6 p0_7 p0_8 p0_9 p0_10 p0_11 p0_12 : Int) (p0_13 : Bool) (p0_14 p0_15 p1 : Int) (h : Hp) : Option (V × Hp) :=
cond (p0_1 == 2) (
some (.agg [.int .i64 p0_0, .int .i64 1, .int .i64 p0_2, .int .i64 p0_3, .int .i64 p0_4, .int .i64 p1, .int .i64 p0_6, .int .i64 p0_7, .int .i64 p0_8, .int .i64 p0_9, .int .i64 p0_10, .int .i64 p0_11, .int .i64 p0_12, .bool p0_13, .int .i64 p0_14, .int .i64 p0_15], h)) (
cond (p0_1 == 1) (
cond (decide (p0_5 ≥ p1)) (
callB (C 56 [.agg [.int .i64 p0_0, .int .i64 3, .int .i64 p0_2, .int .i64 p0_3, .int .i64 p0_4, .int .i64 p0_5, .int .i64 p1, .int .i64 p0_7, .int .i64 p0_8, .int .i64 p0_9, .int .i64 p0_10, .int .i64 p0_11, .int .i64 p0_12, .bool p0_13, .int .i64 p0_14, .int .i64 p0_15], .int .i64 5, .int .i64 0] h) fun v1 h2 =>
asAgg v1 fun l3 =>
asCons l3 fun v4 l5 =>
asInt .i64 v4 fun i6 =>
asCons l5 fun v7 l8 =>
asInt .i64 v7 fun i9 =>
asCons l8 fun v10 l11 =>
asInt .i64 v10 fun i12 =>
asCons l11 fun v13 l14 =>
asInt .i64 v13 fun i15 =>
asCons l14 fun v16 l17 =>
asInt .i64 v16 fun i18 =>
asCons l17 fun v19 l20 =>
asInt .i64 v19 fun i21 =>
asCons l20 fun v22 l23 =>
asInt .i64 v22 fun i24 =>
asCons l23 fun v25 l26 =>
asInt .i64 v25 fun i27 =>
asCons l26 fun v28 l29 =>
asInt .i64 v28 fun i30 =>
asCons l29 fun v31 l32 =>
asInt .i64 v31 fun i33 =>
asCons l32 fun v34 l35 =>
asInt .i64 v34 fun i36 =>
asCons l35 fun v37 l38 =>
asInt .i64 v37 fun i39 =>
asCons l38 fun v40 l41 =>
asInt .i64 v40 fun i42 =>
asCons l41 fun v43 l44 =>
asBool v43 fun b45 =>
asCons l44 fun v46 l47 =>
asInt .i64 v46 fun i48 =>
asCons l47 fun v49 l50 =>
asInt .i64 v49 fun i51 =>
asNil l50 (
some (.agg [.int .i64 i6, .int .i64 i9, .int .i64 i12, .int .i64 i15, .int .i64 i18, .int .i64 i21, .int .i64 i24, .int .i64 i27, .int .i64 i30, .int .i64 i33, .int .i64 i36, .int .i64 i39, .int .i64 i42, .bool b45, .int .i64 i48, .int .i64 i51], h2))) (
some (.agg [.int .i64 p0_0, .int .i64 3, .int .i64 p0_2, .int .i64 p0_3, .int .i64 p0_4, .int .i64 p0_5, .int .i64 p1, .int .i64 p0_7, .int .i64 p0_8, .int .i64 p0_9, .int .i64 p0_10, .int .i64 p0_11, .int .i64 p0_12, .bool p0_13, .int .i64 p0_14, .int .i64 p0_15], h))) (
cond (p0_1 == 3) (
some (.agg [.int .i64 p0_0, .int .i64 4, .int .i64 p0_2, .int .i64 p0_3, .int .i64 p0_4, .int .i64 p0_5, .int .i64 p0_6, .int .i64 p1, .int .i64 p0_8, .int .i64 p0_9, .int .i64 p0_10, .int .i64 p0_11, .int .i64 p0_12, .bool p0_13, .int .i64 p0_14, .int .i64 p0_15], h)) (
cond (p0_1 == 4) (
cond (decide (p1 < 1)) (
callB (C 56 [.agg [.int .i64 p0_0, .int .i64 12, .int .i64 p0_2, .int .i64 p0_3, .int .i64 p0_4, .int .i64 p0_5, .int .i64 p0_6, .int .i64 p0_7, .int .i64 p1, .int .i64 p0_9, .int .i64 p0_10, .int .i64 p0_11, .int .i64 p0_12, .bool p0_13, .int .i64 p0_14, .int .i64 p0_15], .int .i64 1, .int .i64 0] h) fun v52 h53 =>
asAgg v52 fun l54 =>
asCons l54 fun v55 l56 =>
asInt .i64 v55 fun i57 =>
asCons l56 fun v58 l59 =>
asInt .i64 v58 fun i60 =>
asCons l59 fun v61 l62 =>
asInt .i64 v61 fun i63 =>
asCons l62 fun v64 l65 =>
asInt .i64 v64 fun i66 =>
asCons l65 fun v67 l68 =>
asInt .i64 v67 fun i69 =>
asCons l68 fun v70 l71 =>
asInt .i64 v70 fun i72 =>
asCons l71 fun v73 l74 =>
asInt .i64 v73 fun i75 =>
asCons l74 fun v76 l77 =>
asInt .i64 v76 fun i78 =>
asCons l77 fun v79 l80 =>
asInt .i64 v79 fun i81 =>
asCons l80 fun v82 l83 =>
asInt .i64 v82 fun i84 =>
asCons l83 fun v85 l86 =>
asInt .i64 v85 fun i87 =>
asCons l86 fun v88 l89 =>
asInt .i64 v88 fun i90 =>
asCons l89 fun v91 l92 =>
asInt .i64 v91 fun i93 =>
asCons l92 fun v94 l95 =>
asBool v94 fun b96 =>
asCons l95 fun v97 l98 =>
asInt .i64 v97 fun i99 =>
asCons l98 fun v100 l101 =>
asInt .i64 v100 fun i102 =>
asNil l101 (
some (.agg [.int .i64 i57, .int .i64 i60, .int .i64 i63, .int .i64 i66, .int .i64 i69, .int .i64 i72, .int .i64 i75, .int .i64 i78, .int .i64 i81, .int .i64 i84, .int .i64 i87, .int .i64 i90, .int .i64 i93, .bool b96, .int .i64 i99, .int .i64 i102], h53))) (
some (.agg [.int .i64 p0_0, .int .i64 12, .int .i64 p0_2, .int .i64 p0_3, .int .i64 p0_4, .int .i64 p0_5, .int .i64 p0_6, .int .i64 p0_7, .int .i64 p1, .int .i64 p0_9, .int .i64 p0_10, .int .i64 p0_11, .int .i64 p0_12, .bool p0_13, .int .i64 p0_14, .int .i64 p0_15], h))) (
cond (p0_1 == 12) (
some (.agg [.int .i64 p0_0, .int .i64 13, .int .i64 p0_2, .int .i64 p0_3, .int .i64 p0_4, .int .i64 p0_5, .int .i64 p0_6, .int .i64 p0_7, .int .i64 p0_8, .int .i64 p0_9, .int .i64 p0_10, .int .i64 p0_11, .int .i64 p1, .bool p0_13, .int .i64 p0_14, .int .i64 p0_15], h)) (
cond (p0_1 == 13) (
cond (p1 == 1) (
callB (C 56 [.agg [.int .i64 p0_0, .int .i64 p0_1, .int .i64 p0_2, .int .i64 p0_3, .int .i64 p0_4, .int .i64 p0_5, .int .i64 p0_6, .int .i64 p0_7, .int .i64 p0_8, .int .i64 p0_9, .int .i64 p0_10, .int .i64 p0_11, .int .i64 p0_12, .bool p0_13, .int .i64 p0_14, .int .i64 p0_15], .int .i64 4, .int .i64 p0_12] h) fun v103 h104 =>
asAgg v103 fun l105 =>
asCons l105 fun v106 l107 =>
asInt .i64 v106 fun i108 =>
asCons l107 fun v109 l110 =>
asInt .i64 v109 fun i111 =>
asCons l110 fun v112 l113 =>
asInt .i64 v112 fun i114 =>
asCons l113 fun v115 l116 =>
asInt .i64 v115 fun i117 =>
asCons l116 fun v118 l119 =>
asInt .i64 v118 fun i120 =>
asCons l119 fun v121 l122 =>
asInt .i64 v121 fun i123 =>
asCons l122 fun v124 l125 =>
asInt .i64 v124 fun i126 =>
asCons l125 fun v127 l128 =>
asInt .i64 v127 fun i129 =>
asCons l128 fun v130 l131 =>
asInt .i64 v130 fun i132 =>
asCons l131 fun v133 l134 =>
asInt .i64 v133 fun i135 =>
asCons l134 fun v136 l137 =>
asInt .i64 v136 fun i138 =>
asCons l137 fun v139 l140 =>
asInt .i64 v139 fun i141 =>
asCons l140 fun v142 l143 =>
asInt .i64 v142 fun i144 =>
asCons l143 fun v145 l146 =>
asBool v145 fun b147 =>
asCons l146 fun v148 l149 =>
asInt .i64 v148 fun i150 =>
asCons l149 fun v151 l152 =>
asInt .i64 v151 fun i153 =>
asNil l152 (
some (.agg [.int .i64 i108, .int .i64 i111, .int .i64 i114, .int .i64 i117, .int .i64 i120, .int .i64 i123, .int .i64 i126, .int .i64 i129, .int .i64 i132, .int .i64 i135, .int .i64 i138, .int .i64 i141, .int .i64 i144, .bool b147, .int .i64 i150, .int .i64 i153], h104))) (
callB (C 56 [.agg [.int .i64 p0_0, .int .i64 p0_1, .int .i64 p0_2, .int .i64 p0_3, .int .i64 p0_4, .int .i64 p0_5, .int .i64 p0_6, .int .i64 p0_7, .int .i64 p0_8, .int .i64 p0_9, .int .i64 p0_10, .int .i64 p0_11, .int .i64 p0_12, .bool p0_13, .int .i64 p0_14, .int .i64 p0_15], .int .i64 6, .int .i64 0] h) fun v154 h155 =>
asAgg v154 fun l156 =>
asCons l156 fun v157 l158 =>
asInt .i64 v157 fun i159 =>
asCons l158 fun v160 l161 =>
asInt .i64 v160 fun i162 =>
asCons l161 fun v163 l164 =>
asInt .i64 v163 fun i165 =>
asCons l164 fun v166 l167 =>
asInt .i64 v166 fun i168 =>
asCons l167 fun v169 l170 =>
asInt .i64 v169 fun i171 =>
asCons l170 fun v172 l173 =>
asInt .i64 v172 fun i174 =>
asCons l173 fun v175 l176 =>
asInt .i64 v175 fun i177 =>
asCons l176 fun v178 l179 =>
asInt .i64 v178 fun i180 =>
asCons l179 fun v181 l182 =>
asInt .i64 v181 fun i183 =>
asCons l182 fun v184 l185 =>
asInt .i64 v184 fun i186 =>
asCons l185 fun v187 l188 =>
asInt .i64 v187 fun i189 =>
asCons l188 fun v190 l191 =>
asInt .i64 v190 fun i192 =>
asCons l191 fun v193 l194 =>
asInt .i64 v193 fun i195 =>
asCons l194 fun v196 l197 =>
asBool v196 fun b198 =>
asCons l197 fun v199 l200 =>
asInt .i64 v199 fun i201 =>
asCons l200 fun v202 l203 =>
asInt .i64 v202 fun i204 =>
asNil l203 (
some (.agg [.int .i64 i159, .int .i64 i162, .int .i64 i165, .int .i64 i168, .int .i64 i171, .int .i64 i174, .int .i64 i177, .int .i64 i180, .int .i64 i183, .int .i64 i186, .int .i64 i189, .int .i64 i192, .int .i64 i195, .bool b198, .int .i64 i201, .int .i64 i204], h155)))) (
some (.agg [.int .i64 p0_0, .int .i64 p0_1, .int .i64 p0_2, .int .i64 p0_3, .int .i64 p0_4, .int .i64 p0_5, .int .i64 p0_6, .int .i64 p0_7, .int .i64 p0_8, .int .i64 p0_9, .int .i64 p0_10, .int .i64 p0_11, .int .i64 p0_12, .bool p0_13, .int .i64 p0_14, .int .i64 p0_15], h)))))))
noncomputable def deque_Op_stolen (C : AFun) (n : Nat) (p0_0 p0_1 p0_2 p0_3 p0_4 p0_5 p0_6 p0_7 p0_8 p0_9 p0_10 p0_11 p0_12 : Int) (p0_13 : Bool) (p0_14 p0_15 p1 : Int) (h : Hp) : Option (V × Hp) := deque_Op_stolen_M C n p0_0 p0_1 p0_2 p0_3 p0_4 p0_5 p0_6 p0_7 p0_8 p0_9 p0_10 p0_11 p0_12 p0_13 p0_14 p0_15 p1 h
theorem deque_Op_stolen_eM (C : AFun) (n : Nat) (p0_0 p0_1 p0_2 p0_3 p0_4 p0_5 p0_6 p0_7 p0_8 p0_9 p0_10 p0_11 p0_12 : Int) (p0_13 : Bool) (p0_14 p0_15 p1 : Int) (h : Hp) : bodyK E C 60 n Try.f60 [.agg [.int .i64 p0_0, .int .i64 p0_1, .int .i64 p0_2, .int .i64 p0_3, .int .i64 p0_4, .int .i64 p0_5, .int .i64 p0_6, .int .i64 p0_7, .int .i64 p0_8, .int .i64 p0_9, .int .i64 p0_10, .int .i64 p0_11, .int .i64 p0_12, .bool p0_13, .int .i64 p0_14, .int .i64 p0_15], .int .i64 p1] h = deque_Op_stolen_M C n p0_0 p0_1 p0_2 p0_3 p0_4 p0_5 p0_6 p0_7 p0_8 p0_9 p0_10 p0_11 p0_12 p0_13 p0_14 p0_15 p1 h := by kernel_rfl
theorem deque_Op_stolen_eq (n : Nat) (p0_0 p0_1 p0_2 p0_3 p0_4 p0_5 p0_6 p0_7 p0_8 p0_9 p0_10 p0_11 p0_12 : Int) (p0_13 : Bool) (p0_14 p0_15 p1 : Int) (h : Hp) : ev E (n + 1) 60 [.agg [.int .i64 p0_0, .int .i64 p0_1, .int .i64 p0_2, .int .i64 p0_3, .int .i64 p0_4, .int .i64 p0_5, .int .i64 p0_6, .int .i64 p0_7, .int .i64 p0_8, .int .i64 p0_9, .int .i64 p0_10, .int .i64 p0_11, .int .i64 p0_12, .bool p0_13, .int .i64 p0_14, .int .i64 p0_15], .int .i64 p1] h = deque_Op_stolen (ev E n) n p0_0 p0_1 p0_2 p0_3 p0_4 p0_5 p0_6 p0_7 p0_8 p0_9 p0_10 p0_11 p0_12 p0_13 p0_14 p0_15 p1 h := by
  rw [ev_body rfl Try.func60, deque_Op_stolen_eM]
  rfl
/-! (plunder/deque.Op).looked (61) -/
noncomputable def deque_Op_looked_M (C : AFun) (n : Nat) (p0_0 p0_1 p0_2 p0_3 p0_4 p0_5 p0_6 p0_7 p0_8 p0_9 p0_10 p0_11 p0_12 : Int) (p0_13 : Bool) (p0_14 p0_15 p1 : Int) (h : Hp) : Option (V × Hp) :=
cond (p0_1 == 2) (
some (.agg [.int .i64 p0_0, .int .i64 1, .int .i64 p0_2, .int .i64 p0_3, .int .i64 p0_4, .int .i64 p1, .int .i64 p0_6, .int .i64 p0_7, .int .i64 p0_8, .int .i64 p0_9, .int .i64 p0_10, .int .i64 p0_11, .int .i64 p0_12, .bool p0_13, .int .i64 p0_14, .int .i64 p0_15], h)) (
cond (decide (p0_5 < p1)) (
callB (C 56 [.agg [.int .i64 p0_0, .int .i64 p0_1, .int .i64 p0_2, .int .i64 p0_3, .int .i64 p0_4, .int .i64 p0_5, .int .i64 p0_6, .int .i64 p0_7, .int .i64 p0_8, .int .i64 p0_9, .int .i64 p0_10, .int .i64 p0_11, .int .i64 p0_12, .bool p0_13, .int .i64 p0_14, .int .i64 p0_15], .int .i64 7, .int .i64 0] h) fun v1 h2 =>
asAgg v1 fun l3 =>
asCons l3 fun v4 l5 =>
asInt .i64 v4 fun i6 =>
asCons l5 fun v7 l8 =>
asInt .i64 v7 fun i9 =>
asCons l8 fun v10 l11 =>
asInt .i64 v10 fun i12 =>
asCons l11 fun v13 l14 =>
asInt .i64 v13 fun i15 =>
asCons l14 fun v16 l17 =>
asInt .i64 v16 fun i18 =>
asCons l17 fun v19 l20 =>
asInt .i64 v19 fun i21 =>
asCons l20 fun v22 l23 =>
asInt .i64 v22 fun i24 =>
asCons l23 fun v25 l26 =>
asInt .i64 v25 fun i27 =>
asCons l26 fun v28 l29 =>
asInt .i64 v28 fun i30 =>
asCons l29 fun v31 l32 =>
asInt .i64 v31 fun i33 =>
asCons l32 fun v34 l35 =>
asInt .i64 v34 fun i36 =>
asCons l35 fun v37 l38 =>
asInt .i64 v37 fun i39 =>
asCons l38 fun v40 l41 =>
asInt .i64 v40 fun i42 =>
asCons l41 fun v43 l44 =>
asBool v43 fun b45 =>
asCons l44 fun v46 l47 =>
asInt .i64 v46 fun i48 =>
asCons l47 fun v49 l50 =>
asInt .i64 v49 fun i51 =>
asNil l50 (
some (.agg [.int .i64 i6, .int .i64 i9, .int .i64 i12, .int .i64 i15, .int .i64 i18, .int .i64 i21, .int .i64 i24, .int .i64 i27, .int .i64 i30, .int .i64 i33, .int .i64 i36, .int .i64 i39, .int .i64 i42, .bool b45, .int .i64 i48, .int .i64 i51], h2))) (
callB (C 56 [.agg [.int .i64 p0_0, .int .i64 p0_1, .int .i64 p0_2, .int .i64 p0_3, .int .i64 p0_4, .int .i64 p0_5, .int .i64 p0_6, .int .i64 p0_7, .int .i64 p0_8, .int .i64 p0_9, .int .i64 p0_10, .int .i64 p0_11, .int .i64 p0_12, .bool p0_13, .int .i64 p0_14, .int .i64 p0_15], .int .i64 8, .int .i64 0] h) fun v52 h53 =>
asAgg v52 fun l54 =>
asCons l54 fun v55 l56 =>
asInt .i64 v55 fun i57 =>
asCons l56 fun v58 l59 =>
asInt .i64 v58 fun i60 =>
asCons l59 fun v61 l62 =>
asInt .i64 v61 fun i63 =>
asCons l62 fun v64 l65 =>
asInt .i64 v64 fun i66 =>
asCons l65 fun v67 l68 =>
asInt .i64 v67 fun i69 =>
asCons l68 fun v70 l71 =>
asInt .i64 v70 fun i72 =>
asCons l71 fun v73 l74 =>
asInt .i64 v73 fun i75 =>
asCons l74 fun v76 l77 =>
asInt .i64 v76 fun i78 =>
asCons l77 fun v79 l80 =>
asInt .i64 v79 fun i81 =>
asCons l80 fun v82 l83 =>
asInt .i64 v82 fun i84 =>
asCons l83 fun v85 l86 =>
asInt .i64 v85 fun i87 =>
asCons l86 fun v88 l89 =>
asInt .i64 v88 fun i90 =>
asCons l89 fun v91 l92 =>
asInt .i64 v91 fun i93 =>
asCons l92 fun v94 l95 =>
asBool v94 fun b96 =>
asCons l95 fun v97 l98 =>
asInt .i64 v97 fun i99 =>
asCons l98 fun v100 l101 =>
asInt .i64 v100 fun i102 =>
asNil l101 (
some (.agg [.int .i64 i57, .int .i64 i60, .int .i64 i63, .int .i64 i66, .int .i64 i69, .int .i64 i72, .int .i64 i75, .int .i64 i78, .int .i64 i81, .int .i64 i84, .int .i64 i87, .int .i64 i90, .int .i64 i93, .bool b96, .int .i64 i99, .int .i64 i102], h53))))
noncomputable def deque_Op_looked (C : AFun) (n : Nat) (p0_0 p0_1 p0_2 p0_3 p0_4 p0_5 p0_6 p0_7 p0_8 p0_9 p0_10 p0_11 p0_12 : Int) (p0_13 : Bool) (p0_14 p0_15 p1 : Int) (h : Hp) : Option (V × Hp) := deque_Op_looked_M C n p0_0 p0_1 p0_2 p0_3 p0_4 p0_5 p0_6 p0_7 p0_8 p0_9 p0_10 p0_11 p0_12 p0_13 p0_14 p0_15 p1 h
theorem deque_Op_looked_eM (C : AFun) (n : Nat) (p0_0 p0_1 p0_2 p0_3 p0_4 p0_5 p0_6 p0_7 p0_8 p0_9 p0_10 p0_11 p0_12 : Int) (p0_13 : Bool) (p0_14 p0_15 p1 : Int) (h : Hp) : bodyK E C 61 n Try.f61 [.agg [.int .i64 p0_0, .int .i64 p0_1, .int .i64 p0_2, .int .i64 p0_3, .int .i64 p0_4, .int .i64 p0_5, .int .i64 p0_6, .int .i64 p0_7, .int .i64 p0_8, .int .i64 p0_9, .int .i64 p0_10, .int .i64 p0_11, .int .i64 p0_12, .bool p0_13, .int .i64 p0_14, .int .i64 p0_15], .int .i64 p1] h = deque_Op_looked_M C n p0_0 p0_1 p0_2 p0_3 p0_4 p0_5 p0_6 p0_7 p0_8 p0_9 p0_10 p0_11 p0_12 p0_13 p0_14 p0_15 p1 h := by kernel_rfl
theorem deque_Op_looked_eq (n : Nat) (p0_0 p0_1 p0_2 p0_3 p0_4 p0_5 p0_6 p0_7 p0_8 p0_9 p0_10 p0_11 p0_12 : Int) (p0_13 : Bool) (p0_14 p0_15 p1 : Int) (h : Hp) : ev E (n + 1) 61 [.agg [.int .i64 p0_0, .int .i64 p0_1, .int .i64 p0_2, .int .i64 p0_3, .int .i64 p0_4, .int .i64 p0_5, .int .i64 p0_6, .int .i64 p0_7, .int .i64 p0_8, .int .i64 p0_9, .int .i64 p0_10, .int .i64 p0_11, .int .i64 p0_12, .bool p0_13, .int .i64 p0_14, .int .i64 p0_15], .int .i64 p1] h = deque_Op_looked (ev E n) n p0_0 p0_1 p0_2 p0_3 p0_4 p0_5 p0_6 p0_7 p0_8 p0_9 p0_10 p0_11 p0_12 p0_13 p0_14 p0_15 p1 h := by
  rw [ev_body rfl Try.func61, deque_Op_looked_eM]
  rfl
/-! math/bits.Mul32 (62) -/
noncomputable def math_bits_Mul32_M (C : AFun) (n : Nat) (p0 p1 : Int) (h : Hp) : Option (V × Hp) :=
some (.tup [.int .u32 (wr .u32 (Int.fdiv (wr .u64 ((wr .u64 p0) * (wr .u64 p1))) (2 ^ min (Int.toNat 32) (IntKind.bits .u64)))), .int .u32 (wr .u32 (wr .u64 ((wr .u64 p0) * (wr .u64 p1))))], h)
noncomputable def math_bits_Mul32 (C : AFun) (n : Nat) (p0 p1 : Int) (h : Hp) : Option (V × Hp) := math_bits_Mul32_M C n p0 p1 h
theorem math_bits_Mul32_eM (C : AFun) (n : Nat) (p0 p1 : Int) (h : Hp) : bodyK E C 62 n Try.f62 [.int .u32 p0, .int .u32 p1] h = math_bits_Mul32_M C n p0 p1 h := by kernel_rfl
theorem math_bits_Mul32_eq (n : Nat) (p0 p1 : Int) (h : Hp) : ev E (n + 1) 62 [.int .u32 p0, .int .u32 p1] h = math_bits_Mul32 (ev E n) n p0 p1 h := by
  rw [ev_body rfl Try.func62, math_bits_Mul32_eM]
  rfl
/-! math/bits.Mul64 (63) -/
noncomputable def math_bits_Mul64_M (C : AFun) (n : Nat) (p0 p1 : Int) (h : Hp) : Option (V × Hp) :=
some (.tup [.int .u64 (wr .u64 ((wr .u64 ((wr .u64 ((Int.fdiv p0 (2 ^ min (Int.toNat 32) (IntKind.bits .u64))) * (Int.fdiv p1 (2 ^ min (Int.toNat 32) (IntKind.bits .u64))))) + (Int.fdiv (wr .u64 ((wr .u64 ((Int.fdiv p0 (2 ^ min (Int.toNat 32) (IntKind.bits .u64))) * (wr .u64 (BitVec.ofInt (IntKind.bits .u64) p1 &&& BitVec.ofInt (IntKind.bits .u64) 4294967295).toNat))) + (Int.fdiv (wr .u64 ((wr .u64 (BitVec.ofInt (IntKind.bits .u64) p0 &&& BitVec.ofInt (IntKind.bits .u64) 4294967295).toNat) * (wr .u64 (BitVec.ofInt (IntKind.bits .u64) p1 &&& BitVec.ofInt (IntKind.bits .u64) 4294967295).toNat))) (2 ^ min (Int.toNat 32) (IntKind.bits .u64))))) (2 ^ min (Int.toNat 32) (IntKind.bits .u64))))) + (Int.fdiv (wr .u64 ((wr .u64 (BitVec.ofInt (IntKind.bits .u64) (wr .u64 ((wr .u64 ((Int.fdiv p0 (2 ^ min (Int.toNat 32) (IntKind.bits .u64))) * (wr .u64 (BitVec.ofInt (IntKind.bits .u64) p1 &&& BitVec.ofInt (IntKind.bits .u64) 4294967295).toNat))) + (Int.fdiv (wr .u64 ((wr .u64 (BitVec.ofInt (IntKind.bits .u64) p0 &&& BitVec.ofInt (IntKind.bits .u64) 4294967295).toNat) * (wr .u64 (BitVec.ofInt (IntKind.bits .u64) p1 &&& BitVec.ofInt (IntKind.bits .u64) 4294967295).toNat))) (2 ^ min (Int.toNat 32) (IntKind.bits .u64))))) &&& BitVec.ofInt (IntKind.bits .u64) 4294967295).toNat) + (wr .u64 ((wr .u64 (BitVec.ofInt (IntKind.bits .u64) p0 &&& BitVec.ofInt (IntKind.bits .u64) 4294967295).toNat) * (Int.fdiv p1 (2 ^ min (Int.toNat 32) (IntKind.bits .u64))))))) (2 ^ min (Int.toNat 32) (IntKind.bits .u64))))), .int .u64 (wr .u64 (p0 * p1))], h)
noncomputable def math_bits_Mul64 (C : AFun) (n : Nat) (p0 p1 : Int) (h : Hp) : Option (V × Hp) := math_bits_Mul64_M C n p0 p1 h
theorem math_bits_Mul64_eM (C : AFun) (n : Nat) (p0 p1 : Int) (h : Hp) : bodyK E C 63 n Try.f63 [.int .u64 p0, .int .u64 p1] h = math_bits_Mul64_M C n p0 p1 h := by kernel_rfl
theorem math_bits_Mul64_eq (n : Nat) (p0 p1 : Int) (h : Hp) : ev E (n + 1) 63 [.int .u64 p0, .int .u64 p1] h = math_bits_Mul64 (ev E n) n p0 p1 h := by
  rw [ev_body rfl Try.func63, math_bits_Mul64_eM]
  rfl
/-! (*plunder/cells.ledger).has (64) -/
noncomputable def cells_ledger_has_M (C : AFun) (n : Nat) (p0r p0g p0o : Nat) (p1 : Int) (h : Hp) : Option (V × Hp) :=
cond (decide (p1 ≥ 0)) (
ldH h p0r p0g (p0o + 1) false 1 fun v1 =>
asInt .i64 v1 fun i2 =>
some (.bool (decide (p1 < i2)), h)) (
some (.bool false, h))
noncomputable def cells_ledger_has (C : AFun) (n : Nat) (p0r p0g p0o : Nat) (p1 : Int) (h : Hp) : Option (V × Hp) := cells_ledger_has_M C n p0r p0g p0o p1 h
theorem cells_ledger_has_eM (C : AFun) (n : Nat) (p0r p0g p0o : Nat) (p1 : Int) (h : Hp) : bodyK E C 64 n Try.f64 [.ptr p0r p0g p0o, .int .i64 p1] h = cells_ledger_has_M C n p0r p0g p0o p1 h := by kernel_rfl
theorem cells_ledger_has_eq (n : Nat) (p0r p0g p0o : Nat) (p1 : Int) (h : Hp) : ev E (n + 1) 64 [.ptr p0r p0g p0o, .int .i64 p1] h = cells_ledger_has (ev E n) n p0r p0g p0o p1 h := by
  rw [ev_body rfl Try.func64, cells_ledger_has_eM]
  rfl
/-! plunder/deque.begin (65) -/
noncomputable def deque_begin_M (C : AFun) (n : Nat) (p0 p1 p2_0 p2_1 p3 : Int) (h : Hp) : Option (V × Hp) :=
cond (decide (p2_1 < 1)) (
some (.agg [.int .i64 0, .int .i64 0, .int .i64 0, .int .i64 0, .int .i64 0, .int .i64 0, .int .i64 0, .int .i64 0, .int .i64 0, .int .i64 0, .int .i64 0, .int .i64 0, .int .i64 0, .bool false, .int .i64 0, .int .i64 0], h)) (
cond (decide (p2_1 > 4096)) (
some (.agg [.int .i64 0, .int .i64 0, .int .i64 0, .int .i64 0, .int .i64 0, .int .i64 0, .int .i64 0, .int .i64 0, .int .i64 0, .int .i64 0, .int .i64 0, .int .i64 0, .int .i64 0, .bool false, .int .i64 0, .int .i64 0], h)) (
some (.agg [.int .i64 p0, .int .i64 p1, .int .i64 p2_0, .int .i64 p2_1, .int .i64 p3, .int .i64 0, .int .i64 0, .int .i64 0, .int .i64 0, .int .i64 0, .int .i64 0, .int .i64 0, .int .i64 0, .bool false, .int .i64 0, .int .i64 0], h)))
noncomputable def deque_begin (C : AFun) (n : Nat) (p0 p1 p2_0 p2_1 p3 : Int) (h : Hp) : Option (V × Hp) := deque_begin_M C n p0 p1 p2_0 p2_1 p3 h
theorem deque_begin_eM (C : AFun) (n : Nat) (p0 p1 p2_0 p2_1 p3 : Int) (h : Hp) : bodyK E C 65 n Try.f65 [.int .i64 p0, .int .i64 p1, .agg [.int .i64 p2_0, .int .i64 p2_1], .int .i64 p3] h = deque_begin_M C n p0 p1 p2_0 p2_1 p3 h := by kernel_rfl
theorem deque_begin_eq (n : Nat) (p0 p1 p2_0 p2_1 p3 : Int) (h : Hp) : ev E (n + 1) 65 [.int .i64 p0, .int .i64 p1, .agg [.int .i64 p2_0, .int .i64 p2_1], .int .i64 p3] h = deque_begin (ev E n) n p0 p1 p2_0 p2_1 p3 h := by
  rw [ev_body rfl Try.func65, deque_begin_eM]
  rfl
/-! (plunder/deque.Op).next (66) -/
noncomputable def deque_Op_next_M (C : AFun) (n : Nat) (p0_0 p0_1 p0_2 p0_3 p0_4 p0_5 p0_6 p0_7 p0_8 p0_9 p0_10 p0_11 p0_12 : Int) (p0_13 : Bool) (p0_14 p0_15 : Int) (h : Hp) : Option (V × Hp) :=
cond (p0_0 == 1) (
some (.int .i64 (wr .i64 (p0_6 + 1)), h)) (
cond (p0_11 == 0) (
some (.int .i64 p0_6, h)) (
cond (decide (p0_5 > p0_6)) (
some (.int .i64 p0_5, h)) (
some (.int .i64 (wr .i64 (p0_5 + 1)), h))))
noncomputable def deque_Op_next (C : AFun) (n : Nat) (p0_0 p0_1 p0_2 p0_3 p0_4 p0_5 p0_6 p0_7 p0_8 p0_9 p0_10 p0_11 p0_12 : Int) (p0_13 : Bool) (p0_14 p0_15 : Int) (h : Hp) : Option (V × Hp) := deque_Op_next_M C n p0_0 p0_1 p0_2 p0_3 p0_4 p0_5 p0_6 p0_7 p0_8 p0_9 p0_10 p0_11 p0_12 p0_13 p0_14 p0_15 h
theorem deque_Op_next_eM (C : AFun) (n : Nat) (p0_0 p0_1 p0_2 p0_3 p0_4 p0_5 p0_6 p0_7 p0_8 p0_9 p0_10 p0_11 p0_12 : Int) (p0_13 : Bool) (p0_14 p0_15 : Int) (h : Hp) : bodyK E C 66 n Try.f66 [.agg [.int .i64 p0_0, .int .i64 p0_1, .int .i64 p0_2, .int .i64 p0_3, .int .i64 p0_4, .int .i64 p0_5, .int .i64 p0_6, .int .i64 p0_7, .int .i64 p0_8, .int .i64 p0_9, .int .i64 p0_10, .int .i64 p0_11, .int .i64 p0_12, .bool p0_13, .int .i64 p0_14, .int .i64 p0_15]] h = deque_Op_next_M C n p0_0 p0_1 p0_2 p0_3 p0_4 p0_5 p0_6 p0_7 p0_8 p0_9 p0_10 p0_11 p0_12 p0_13 p0_14 p0_15 h := by kernel_rfl
theorem deque_Op_next_eq (n : Nat) (p0_0 p0_1 p0_2 p0_3 p0_4 p0_5 p0_6 p0_7 p0_8 p0_9 p0_10 p0_11 p0_12 : Int) (p0_13 : Bool) (p0_14 p0_15 : Int) (h : Hp) : ev E (n + 1) 66 [.agg [.int .i64 p0_0, .int .i64 p0_1, .int .i64 p0_2, .int .i64 p0_3, .int .i64 p0_4, .int .i64 p0_5, .int .i64 p0_6, .int .i64 p0_7, .int .i64 p0_8, .int .i64 p0_9, .int .i64 p0_10, .int .i64 p0_11, .int .i64 p0_12, .bool p0_13, .int .i64 p0_14, .int .i64 p0_15]] h = deque_Op_next (ev E n) n p0_0 p0_1 p0_2 p0_3 p0_4 p0_5 p0_6 p0_7 p0_8 p0_9 p0_10 p0_11 p0_12 p0_13 p0_14 p0_15 h := by
  rw [ev_body rfl Try.func66, deque_Op_next_eM]
  rfl
/-! (*plunder/cells.Arena).CAS (82) -/
noncomputable def cells_Arena_CAS_M (C : AFun) (n : Nat) (p0r p0g p0o : Nat) (p1 p2 p3 : Int) (h : Hp) : Option (V × Hp) :=
callB (C 51 [.ptr p0r p0g p0o, .int .i64 p1] h) fun v1 h2 =>
asBool v1 fun b3 =>
cond b3 (
some (.tup [.bool false, .int .i64 20], h2)) (
ldH h2 p0r p0g (p0o + 2) false 1 fun v4 =>
idxS 1 v4 (.int .i64 p1) fun r5 g6 o7 =>
ldH h2 r5 g6 o7 false 1 fun v8 =>
asInt .i64 v8 fun i9 =>
cond (i9 == p2) (
ldH h2 p0r p0g (p0o + 2) false 1 fun v10 =>
idxS 1 v10 (.int .i64 p1) fun r11 g12 o13 =>
stH h2 r11 g12 o13 1 (.int .i64 p3) fun h14 =>
callB (C 52 [.ptr p0r p0g p0o, .int .i64 2, .int .i64 p1, .int .i64 p2, .int .i64 p3, .bool (i9 == p2)] h14) fun v15 h16 =>
some (.tup [.bool (i9 == p2), .int .i64 0], h16)) (
callB (C 52 [.ptr p0r p0g p0o, .int .i64 2, .int .i64 p1, .int .i64 p2, .int .i64 p3, .bool (i9 == p2)] h2) fun v17 h18 =>
some (.tup [.bool (i9 == p2), .int .i64 0], h18)))
noncomputable def cells_Arena_CAS (C : AFun) (n : Nat) (p0r p0g p0o : Nat) (p1 p2 p3 : Int) (h : Hp) : Option (V × Hp) := cells_Arena_CAS_M C n p0r p0g p0o p1 p2 p3 h
theorem cells_Arena_CAS_eM (C : AFun) (n : Nat) (p0r p0g p0o : Nat) (p1 p2 p3 : Int) (h : Hp) : bodyK E C 82 n Try.f82 [.ptr p0r p0g p0o, .int .i64 p1, .int .i64 p2, .int .i64 p3] h = cells_Arena_CAS_M C n p0r p0g p0o p1 p2 p3 h := by kernel_rfl
theorem cells_Arena_CAS_eq (n : Nat) (p0r p0g p0o : Nat) (p1 p2 p3 : Int) (h : Hp) : ev E (n + 1) 82 [.ptr p0r p0g p0o, .int .i64 p1, .int .i64 p2, .int .i64 p3] h = cells_Arena_CAS (ev E n) n p0r p0g p0o p1 p2 p3 h := by
  rw [ev_body rfl Try.func82, cells_Arena_CAS_eM]
  rfl
/-! (*plunder/cells.Arena).Load (83) -/
noncomputable def cells_Arena_Load_M (C : AFun) (n : Nat) (p0r p0g p0o : Nat) (p1 : Int) (h : Hp) : Option (V × Hp) :=
callB (C 51 [.ptr p0r p0g p0o, .int .i64 p1] h) fun v1 h2 =>
asBool v1 fun b3 =>
cond b3 (
some (.tup [.int .i64 0, .int .i64 20], h2)) (
ldH h2 p0r p0g (p0o + 2) false 1 fun v4 =>
idxS 1 v4 (.int .i64 p1) fun r5 g6 o7 =>
ldH h2 r5 g6 o7 false 1 fun v8 =>
asInt .i64 v8 fun i9 =>
callB (C 52 [.ptr p0r p0g p0o, .int .i64 0, .int .i64 p1, .int .i64 i9, .int .i64 0, .bool true] h2) fun v10 h11 =>
some (.tup [.int .i64 i9, .int .i64 0], h11))
noncomputable def cells_Arena_Load (C : AFun) (n : Nat) (p0r p0g p0o : Nat) (p1 : Int) (h : Hp) : Option (V × Hp) := cells_Arena_Load_M C n p0r p0g p0o p1 h
theorem cells_Arena_Load_eM (C : AFun) (n : Nat) (p0r p0g p0o : Nat) (p1 : Int) (h : Hp) : bodyK E C 83 n Try.f83 [.ptr p0r p0g p0o, .int .i64 p1] h = cells_Arena_Load_M C n p0r p0g p0o p1 h := by kernel_rfl
theorem cells_Arena_Load_eq (n : Nat) (p0r p0g p0o : Nat) (p1 : Int) (h : Hp) : ev E (n + 1) 83 [.ptr p0r p0g p0o, .int .i64 p1] h = cells_Arena_Load (ev E n) n p0r p0g p0o p1 h := by
  rw [ev_body rfl Try.func83, cells_Arena_Load_eM]
  rfl
/-! (*plunder/cells.Arena).Mark (84) -/
noncomputable def cells_Arena_Mark_M (C : AFun) (n : Nat) (p0r p0g p0o : Nat) (h : Hp) : Option (V × Hp) :=
callB (C 96 [.ptr p0r p0g (p0o + 0)] h) fun v1 h2 =>
asInt .i64 v1 fun i3 =>
some (.int .i64 i3, h2)
noncomputable def cells_Arena_Mark (C : AFun) (n : Nat) (p0r p0g p0o : Nat) (h : Hp) : Option (V × Hp) := cells_Arena_Mark_M C n p0r p0g p0o h
theorem cells_Arena_Mark_eM (C : AFun) (n : Nat) (p0r p0g p0o : Nat) (h : Hp) : bodyK E C 84 n Try.f84 [.ptr p0r p0g p0o] h = cells_Arena_Mark_M C n p0r p0g p0o h := by kernel_rfl
theorem cells_Arena_Mark_eq (n : Nat) (p0r p0g p0o : Nat) (h : Hp) : ev E (n + 1) 84 [.ptr p0r p0g p0o] h = cells_Arena_Mark (ev E n) n p0r p0g p0o h := by
  rw [ev_body rfl Try.func84, cells_Arena_Mark_eM]
  rfl
/-! (*plunder/cells.Arena).Reserve (85) -/
noncomputable def cells_Arena_Reserve_M (C : AFun) (n : Nat) (p0r p0g p0o : Nat) (p1 : Int) (h : Hp) : Option (V × Hp) :=
callB (C 86 [.ptr p0r p0g (p0o + 0), .int .i64 p1] h) fun v1 h2 =>
asInt .i64 v1 fun i3 =>
cond (i3 != 0) (
some (.tup [.int .i64 0, .int .i64 i3], h2)) (
callB (C 87 [.ptr p0r p0g (p0o + 0), .int .i64 p1] h2) fun v4 h5 =>
asInt .i64 v4 fun i6 =>
ldH h5 p0r p0g (p0o + 2) false 1 fun v7 =>
srcZ [.int .i64 0] 8 p1 fun l8 n9 =>
appendK 1 8 v7 l8 n9 h5 fun v10 h11 =>
stH h11 p0r p0g (p0o + 2) 1 v10 fun h12 =>
callB (C 52 [.ptr p0r p0g p0o, .int .i64 4, .int .i64 i6, .int .i64 p1, .int .i64 0, .bool true] h12) fun v13 h14 =>
some (.tup [.int .i64 i6, .int .i64 0], h14))
noncomputable def cells_Arena_Reserve (C : AFun) (n : Nat) (p0r p0g p0o : Nat) (p1 : Int) (h : Hp) : Option (V × Hp) := cells_Arena_Reserve_M C n p0r p0g p0o p1 h
theorem cells_Arena_Reserve_eM (C : AFun) (n : Nat) (p0r p0g p0o : Nat) (p1 : Int) (h : Hp) : bodyK E C 85 n Try.f85 [.ptr p0r p0g p0o, .int .i64 p1] h = cells_Arena_Reserve_M C n p0r p0g p0o p1 h := by kernel_rfl
theorem cells_Arena_Reserve_eq (n : Nat) (p0r p0g p0o : Nat) (p1 : Int) (h : Hp) : ev E (n + 1) 85 [.ptr p0r p0g p0o, .int .i64 p1] h = cells_Arena_Reserve (ev E n) n p0r p0g p0o p1 h := by
  rw [ev_body rfl Try.func85, cells_Arena_Reserve_eM]
  rfl
/-! (*plunder/cells.ledger).refuse (86) -/
noncomputable def cells_ledger_refuse_M (C : AFun) (n : Nat) (p0r p0g p0o : Nat) (p1 : Int) (h : Hp) : Option (V × Hp) :=
cond (decide (p1 < 1)) (
some (.int .i64 21, h)) (
ldH h p0r p0g (p0o + 0) false 1 fun v1 =>
asInt .i64 v1 fun i2 =>
ldH h p0r p0g (p0o + 1) false 1 fun v3 =>
asInt .i64 v3 fun i4 =>
cond (decide (p1 > (wr .i64 (i2 - i4)))) (
some (.int .i64 22, h)) (
some (.int .i64 0, h)))
noncomputable def cells_ledger_refuse (C : AFun) (n : Nat) (p0r p0g p0o : Nat) (p1 : Int) (h : Hp) : Option (V × Hp) := cells_ledger_refuse_M C n p0r p0g p0o p1 h
theorem cells_ledger_refuse_eM (C : AFun) (n : Nat) (p0r p0g p0o : Nat) (p1 : Int) (h : Hp) : bodyK E C 86 n Try.f86 [.ptr p0r p0g p0o, .int .i64 p1] h = cells_ledger_refuse_M C n p0r p0g p0o p1 h := by kernel_rfl
theorem cells_ledger_refuse_eq (n : Nat) (p0r p0g p0o : Nat) (p1 : Int) (h : Hp) : ev E (n + 1) 86 [.ptr p0r p0g p0o, .int .i64 p1] h = cells_ledger_refuse (ev E n) n p0r p0g p0o p1 h := by
  rw [ev_body rfl Try.func86, cells_ledger_refuse_eM]
  rfl
/-! (*plunder/cells.ledger).take (87) -/
noncomputable def cells_ledger_take_M (C : AFun) (n : Nat) (p0r p0g p0o : Nat) (p1 : Int) (h : Hp) : Option (V × Hp) :=
ldH h p0r p0g (p0o + 1) false 1 fun v1 =>
asInt .i64 v1 fun i2 =>
ldH h p0r p0g (p0o + 1) false 1 fun v3 =>
asInt .i64 v3 fun i4 =>
stH h p0r p0g (p0o + 1) 1 (.int .i64 (wr .i64 (i4 + p1))) fun h5 =>
some (.int .i64 i2, h5)
noncomputable def cells_ledger_take (C : AFun) (n : Nat) (p0r p0g p0o : Nat) (p1 : Int) (h : Hp) : Option (V × Hp) := cells_ledger_take_M C n p0r p0g p0o p1 h
theorem cells_ledger_take_eM (C : AFun) (n : Nat) (p0r p0g p0o : Nat) (p1 : Int) (h : Hp) : bodyK E C 87 n Try.f87 [.ptr p0r p0g p0o, .int .i64 p1] h = cells_ledger_take_M C n p0r p0g p0o p1 h := by kernel_rfl
theorem cells_ledger_take_eq (n : Nat) (p0r p0g p0o : Nat) (p1 : Int) (h : Hp) : ev E (n + 1) 87 [.ptr p0r p0g p0o, .int .i64 p1] h = cells_ledger_take (ev E n) n p0r p0g p0o p1 h := by
  rw [ev_body rfl Try.func87, cells_ledger_take_eM]
  rfl
/-! (plunder/buffers.place).cells (88) -/
noncomputable def buffers_place_cells_M (C : AFun) (n : Nat) (p0_0 : V) (p0_1 : Int) (h : Hp) : Option (V × Hp) :=
nilS prog p0_0 fun v1 =>
fldS v1 fun r2 g3 o4 =>
ldH h r2 g3 (o4 + 0) false 1 fun v5 =>
callB (C 38 [v5, .int .i64 p0_1] h) fun v6 h7 =>
nilS prog p0_0 fun v8 =>
fldS v8 fun r9 g10 o11 =>
ldH h7 r9 g10 (o11 + 0) false 1 fun v12 =>
some (v12, h7)
noncomputable def buffers_place_cells (C : AFun) (n : Nat) (p0_0 : V) (p0_1 : Int) (h : Hp) : Option (V × Hp) := buffers_place_cells_M C n p0_0 p0_1 h
theorem buffers_place_cells_eM (C : AFun) (n : Nat) (p0_0 : V) (p0_1 : Int) (h : Hp) : bodyK E C 88 n Try.f88 [.agg [p0_0, .int .i64 p0_1]] h = buffers_place_cells_M C n p0_0 p0_1 h := by kernel_rfl
theorem buffers_place_cells_eq (n : Nat) (p0_0 : V) (p0_1 : Int) (h : Hp) : ev E (n + 1) 88 [.agg [p0_0, .int .i64 p0_1]] h = buffers_place_cells (ev E n) n p0_0 p0_1 h := by
  rw [ev_body rfl Try.func88, buffers_place_cells_eM]
  rfl
/-! (*plunder/buffers.View).CAS (89) -/
noncomputable def buffers_View_CAS_M (C : AFun) (n : Nat) (p0r p0g p0o : Nat) (p1 p2 p3 : Int) (h : Hp) : Option (V × Hp) :=
callB (C 94 [.ptr p0r p0g p0o, .int .i64 p1] h) fun v1 h2 =>
asBool v1 fun b3 =>
cond b3 (
some (.tup [.bool false, .int .i64 20], h2)) (
ldH h2 p0r p0g ((p0o + 0) + 0) false 1 fun v4 =>
ldH h2 p0r p0g ((p0o + 0) + 1) false 1 fun v5 =>
asInt .i64 v5 fun i6 =>
callB (C 22 [v4, .int .i64 i6] h2) fun v7 h8 =>
ldH h8 p0r p0g (p0o + 0) true 2 fun v9 =>
asAgg v9 fun l10 =>
asCons l10 fun v11 l12 =>
asCons l12 fun v13 l14 =>
asInt .i64 v13 fun i15 =>
asNil l14 (
callB (C 88 [.agg [v11, .int .i64 i15]] h8) fun v16 h17 =>
callB (C 82 [v16, .int .i64 p1, .int .i64 p2, .int .i64 p3] h17) fun v18 h19 =>
asTup v18 fun l20 =>
asCons l20 fun v21 l22 =>
asBool v21 fun b23 =>
asCons l22 fun v24 l25 =>
asInt .i64 v24 fun i26 =>
asNil l25 (
some (.tup [.bool b23, .int .i64 i26], h19))))
noncomputable def buffers_View_CAS (C : AFun) (n : Nat) (p0r p0g p0o : Nat) (p1 p2 p3 : Int) (h : Hp) : Option (V × Hp) := buffers_View_CAS_M C n p0r p0g p0o p1 p2 p3 h
theorem buffers_View_CAS_eM (C : AFun) (n : Nat) (p0r p0g p0o : Nat) (p1 p2 p3 : Int) (h : Hp) : bodyK E C 89 n Try.f89 [.ptr p0r p0g p0o, .int .i64 p1, .int .i64 p2, .int .i64 p3] h = buffers_View_CAS_M C n p0r p0g p0o p1 p2 p3 h := by kernel_rfl
theorem buffers_View_CAS_eq (n : Nat) (p0r p0g p0o : Nat) (p1 p2 p3 : Int) (h : Hp) : ev E (n + 1) 89 [.ptr p0r p0g p0o, .int .i64 p1, .int .i64 p2, .int .i64 p3] h = buffers_View_CAS (ev E n) n p0r p0g p0o p1 p2 p3 h := by
  rw [ev_body rfl Try.func89, buffers_View_CAS_eM]
  rfl
/-! (*plunder/buffers.View).Fence (90) -/
noncomputable def buffers_View_Fence_M (C : AFun) (n : Nat) (p0r p0g p0o : Nat) (h : Hp) : Option (V × Hp) :=
ldH h p0r p0g ((p0o + 0) + 0) false 1 fun v1 =>
binK prog .neq 50 true v1 .nilp fun v2 =>
asBool v2 fun b3 =>
cond b3 (
ldH h p0r p0g ((p0o + 0) + 0) false 1 fun v4 =>
ldH h p0r p0g ((p0o + 0) + 1) false 1 fun v5 =>
asInt .i64 v5 fun i6 =>
callB (C 22 [v4, .int .i64 i6] h) fun v7 h8 =>
some (.tup [], h8)) (
some (.tup [], h))
noncomputable def buffers_View_Fence (C : AFun) (n : Nat) (p0r p0g p0o : Nat) (h : Hp) : Option (V × Hp) := buffers_View_Fence_M C n p0r p0g p0o h
theorem buffers_View_Fence_eM (C : AFun) (n : Nat) (p0r p0g p0o : Nat) (h : Hp) : bodyK E C 90 n Try.f90 [.ptr p0r p0g p0o] h = buffers_View_Fence_M C n p0r p0g p0o h := by kernel_rfl
theorem buffers_View_Fence_eq (n : Nat) (p0r p0g p0o : Nat) (h : Hp) : ev E (n + 1) 90 [.ptr p0r p0g p0o] h = buffers_View_Fence (ev E n) n p0r p0g p0o h := by
  rw [ev_body rfl Try.func90, buffers_View_Fence_eM]
  rfl
end Go.Ev.Ytkgfoiinbnhpbaa
