/- What the evaluator makes of the functions of the program, and the equations (printed by wip/emit/gentab.py). -/
import Derived.Test.YtkgfoiinbnhpbaaEvEnv
import Derived.KernelRfl
set_option linter.unusedVariables false
namespace Go.Ev.Ytkgfoiinbnhpbaa
open Go Go.Ev Go.Proofs
set_option maxRecDepth 100000
/-! (*plunder/buffers.View).Load (91) -/
noncomputable def buffers_View_Load_B0 (C : AFun) (n : Nat) (rec0 : Nat → Nat → Nat → Int → V → Int → Hp → Option (V × Hp)) (t0r t0g t0o : Nat) (t1 : Int) (t6 : V) (t7 : Int) (h : Hp) : Option (V × Hp) :=
cond (decide (t7 ≥ 0)) (
idxS 2 t6 (.int .i64 t7) fun r13 g14 o15 =>
ldH h r13 g14 (o15 + 0) false 1 fun v16 =>
asInt .i64 v16 fun i17 =>
cond (i17 == t1) (
idxS 2 t6 (.int .i64 t7) fun r18 g19 o20 =>
ldH h r18 g19 (o20 + 1) false 1 fun v21 =>
asInt .i64 v21 fun i22 =>
some (.tup [.int .i64 i22, .int .i64 0], h)) (
rec0 t0r t0g t0o t1 t6 (wr .i64 (t7 - 1)) h)) (
ldH h t0r t0g (t0o + 0) true 2 fun v23 =>
asAgg v23 fun l24 =>
asCons l24 fun v25 l26 =>
asCons l26 fun v27 l28 =>
asInt .i64 v27 fun i29 =>
asNil l28 (
callB (C 88 [.agg [v25, .int .i64 i29]] h) fun v30 h31 =>
callB (C 83 [v30, .int .i64 t1] h31) fun v32 h33 =>
asTup v32 fun l34 =>
asCons l34 fun v35 l36 =>
asInt .i64 v35 fun i37 =>
asCons l36 fun v38 l39 =>
asInt .i64 v38 fun i40 =>
asNil l39 (
some (.tup [.int .i64 i37, .int .i64 i40], h33))))
noncomputable def buffers_View_Load_L0 (C : AFun) (n : Nat) : Nat → Nat → Nat → Nat → Int → V → Int → Hp → Option (V × Hp)
  | 0, _, _, _, _, _, _, _ => none
  | m + 1, t0r, t0g, t0o, t1, t6, t7, h => buffers_View_Load_B0 C n (buffers_View_Load_L0 C n m) t0r t0g t0o t1 t6 t7 h
noncomputable def buffers_View_Load_M (C : AFun) (n : Nat) (loop0 : Nat → Nat → Nat → Int → V → Int → Hp → Option (V × Hp)) (p0r p0g p0o : Nat) (p1 : Int) (h : Hp) : Option (V × Hp) :=
callB (C 94 [.ptr p0r p0g p0o, .int .i64 p1] h) fun v1 h2 =>
asBool v1 fun b3 =>
cond b3 (
some (.tup [.int .i64 0, .int .i64 20], h2)) (
ldH h2 p0r p0g ((p0o + 0) + 0) false 1 fun v4 =>
ldH h2 p0r p0g ((p0o + 0) + 1) false 1 fun v5 =>
asInt .i64 v5 fun i6 =>
nilS prog v4 fun v7 =>
fldS v7 fun r8 g9 o10 =>
inA i6 8 (
ldH h2 r8 g9 ((o10 + 3) + Int.toNat i6 * 1) false 1 fun v11 =>
lenS v11 fun n12 =>
loop0 p0r p0g p0o p1 v11 (wr .i64 (n12 - 1)) h2))
noncomputable def buffers_View_Load (C : AFun) (n : Nat) (p0r p0g p0o : Nat) (p1 : Int) (h : Hp) : Option (V × Hp) := buffers_View_Load_M C n (buffers_View_Load_L0 C n n) p0r p0g p0o p1 h
def buffers_View_Load_F0 (t0r t0g t0o : Nat) (t1 : Int) (t6 : V) (t7 : Int) : Fr := { tmps := [.v (.ptr t0r t0g t0o), .v (.int .i64 t1), .bot, .bot, .bot, .bot, .v t6, .v (.int .i64 t7), .bot, .bot, .bot, .bot, .bot, .bot, .bot, .bot, .bot, .bot, .bot, .bot, .bot, .bot, .bot, .bot, .bot, .bot, .bot, .bot, .bot, .bot, .bot, .bot, .bot, .bot, .bot, .bot, .bot, .bot, .bot, .bot, .bot, .bot, .bot, .bot, .bot, .bot, .bot, .bot, .bot, .bot, .bot, .bot, .bot], vars := fun _ => none }
theorem buffers_View_Load_eB0 (C : AFun) (n : Nat) (rec0 : Fr → Hp → Option (V × Hp)) (t0r t0g t0o : Nat) (t1 : Int) (t6 : V) (t7 : Int) (h : Hp) :
    codeK E C 91 n (cIn (cIn (cSeqR (cSeqL (cSeqR (cSeqR (cSeqR (cOf Try.f91)))))))) (buffers_View_Load_F0 t0r t0g t0o t1 t6 t7) h (kLoop (maskAt E 91 5) rec0 (kBlock 0 (kSeq E C 91 n (cSeqR (cSeqR (cSeqR (cSeqR (cOf Try.f91))))) (kTop prog Try.f91)))) = buffers_View_Load_B0 C n (fun t0r t0g t0o t1 t6 t7 h => rec0 (buffers_View_Load_F0 t0r t0g t0o t1 t6 t7) h) t0r t0g t0o t1 t6 t7 h := by kernel_rfl
theorem buffers_View_Load_eL0 (C : AFun) (n : Nat) : ∀ m, (fun t0r t0g t0o t1 t6 t7 h => loopK (codeK E C 91 n (cIn (cIn (cSeqR (cSeqL (cSeqR (cSeqR (cSeqR (cOf Try.f91))))))))) (maskAt E 91 5) m (buffers_View_Load_F0 t0r t0g t0o t1 t6 t7) h (kBlock 0 (kSeq E C 91 n (cSeqR (cSeqR (cSeqR (cSeqR (cOf Try.f91))))) (kTop prog Try.f91)))) = buffers_View_Load_L0 C n m
  | 0 => rfl
  | m + 1 => by
    funext t0r t0g t0o t1 t6 t7 h
    have ih := buffers_View_Load_eL0 C n m
    have e := buffers_View_Load_eB0 C n (fun F h => loopK (codeK E C 91 n (cIn (cIn (cSeqR (cSeqL (cSeqR (cSeqR (cSeqR (cOf Try.f91))))))))) (maskAt E 91 5) m F h (kBlock 0 (kSeq E C 91 n (cSeqR (cSeqR (cSeqR (cSeqR (cOf Try.f91))))) (kTop prog Try.f91)))) t0r t0g t0o t1 t6 t7 h
    refine (loopK_succ _ _ _ _ _ _).trans (Eq.trans e ?_)
    simp only [ih]
    rfl
theorem buffers_View_Load_eM (C : AFun) (n : Nat) (p0r p0g p0o : Nat) (p1 : Int) (h : Hp) : bodyK E C 91 n Try.f91 [.ptr p0r p0g p0o, .int .i64 p1] h = buffers_View_Load_M C n (fun t0r t0g t0o t1 t6 t7 h => loopK (codeK E C 91 n (cIn (cIn (cSeqR (cSeqL (cSeqR (cSeqR (cSeqR (cOf Try.f91))))))))) (maskAt E 91 5) n (buffers_View_Load_F0 t0r t0g t0o t1 t6 t7) h (kBlock 0 (kSeq E C 91 n (cSeqR (cSeqR (cSeqR (cSeqR (cOf Try.f91))))) (kTop prog Try.f91)))) p0r p0g p0o p1 h := by kernel_rfl
theorem buffers_View_Load_eq (n : Nat) (p0r p0g p0o : Nat) (p1 : Int) (h : Hp) : ev E (n + 1) 91 [.ptr p0r p0g p0o, .int .i64 p1] h = buffers_View_Load (ev E n) n p0r p0g p0o p1 h := by
  rw [ev_body rfl Try.func91, buffers_View_Load_eM]
  rw [buffers_View_Load_eL0 (ev E n) n n]
  rfl
/-! (*plunder/buffers.View).Reserve (92) -/
noncomputable def buffers_View_Reserve_M (C : AFun) (n : Nat) (p0r p0g p0o : Nat) (p1 : Int) (h : Hp) : Option (V × Hp) :=
cond (decide (p1 < 1)) (
some (.tup [.int .i64 0, .int .i64 21], h)) (
ldH h p0r p0g ((p0o + 0) + 0) false 1 fun v1 =>
binK prog .eql 50 true v1 .nilp fun v2 =>
asBool v2 fun b3 =>
cond b3 (
sameV (.tup []) (.tup []) (
sameV (.tup []) (.tup []) (
some (.tup [.int .i64 0, .int .i64 22], h)))) (
ldH h p0r p0g ((p0o + 0) + 0) false 1 fun v4 =>
nilS prog v4 fun v5 =>
fldS v5 fun r6 g7 o8 =>
ldH h r6 g7 (o8 + 0) false 1 fun v9 =>
ldH h p0r p0g ((p0o + 0) + 0) false 1 fun v10 =>
nilS prog v10 fun v11 =>
fldS v11 fun r12 g13 o14 =>
ldH h r12 g13 (o14 + 0) false 1 fun v15 =>
callB (C 95 [v9] h) fun v16 h17 =>
asInt .i64 v16 fun i18 =>
ldH h17 r12 g13 (o14 + 0) false 1 fun v19 =>
sameV v19 v15 (
ldH h17 p0r p0g ((p0o + 0) + 0) false 1 fun v20 =>
sameV v20 v10 (
callB (C 84 [v15] h17) fun v21 h22 =>
asInt .i64 v21 fun i23 =>
cond (decide (p1 > (wr .i64 (i18 - i23)))) (
some (.tup [.int .i64 0, .int .i64 22], h22)) (
ldH h22 p0r p0g ((p0o + 0) + 0) false 1 fun v24 =>
ldH h22 p0r p0g ((p0o + 0) + 1) false 1 fun v25 =>
asInt .i64 v25 fun i26 =>
callB (C 22 [v24, .int .i64 i26] h22) fun v27 h28 =>
ldH h28 p0r p0g (p0o + 0) true 2 fun v29 =>
asAgg v29 fun l30 =>
asCons l30 fun v31 l32 =>
asCons l32 fun v33 l34 =>
asInt .i64 v33 fun i35 =>
asNil l34 (
callB (C 88 [.agg [v31, .int .i64 i35]] h28) fun v36 h37 =>
callB (C 85 [v36, .int .i64 p1] h37) fun v38 h39 =>
asTup v38 fun l40 =>
asCons l40 fun v41 l42 =>
asInt .i64 v41 fun i43 =>
asCons l42 fun v44 l45 =>
asInt .i64 v44 fun i46 =>
asNil l45 (
some (.tup [.int .i64 i43, .int .i64 i46], h39))))))))
noncomputable def buffers_View_Reserve (C : AFun) (n : Nat) (p0r p0g p0o : Nat) (p1 : Int) (h : Hp) : Option (V × Hp) := buffers_View_Reserve_M C n p0r p0g p0o p1 h
theorem buffers_View_Reserve_eM (C : AFun) (n : Nat) (p0r p0g p0o : Nat) (p1 : Int) (h : Hp) : bodyK E C 92 n Try.f92 [.ptr p0r p0g p0o, .int .i64 p1] h = buffers_View_Reserve_M C n p0r p0g p0o p1 h := by kernel_rfl
theorem buffers_View_Reserve_eq (n : Nat) (p0r p0g p0o : Nat) (p1 : Int) (h : Hp) : ev E (n + 1) 92 [.ptr p0r p0g p0o, .int .i64 p1] h = buffers_View_Reserve (ev E n) n p0r p0g p0o p1 h := by
  rw [ev_body rfl Try.func92, buffers_View_Reserve_eM]
  rfl
/-! (*plunder/buffers.View).Store (93) -/
noncomputable def buffers_View_Store_M (C : AFun) (n : Nat) (p0r p0g p0o : Nat) (p1 p2 : Int) (h : Hp) : Option (V × Hp) :=
callB (C 94 [.ptr p0r p0g p0o, .int .i64 p1] h) fun v1 h2 =>
asBool v1 fun b3 =>
cond b3 (
some (.int .i64 20, h2)) (
ldH h2 p0r p0g ((p0o + 0) + 0) false 1 fun v4 =>
ldH h2 p0r p0g ((p0o + 0) + 1) false 1 fun v5 =>
asInt .i64 v5 fun i6 =>
nilS prog v4 fun v7 =>
fldS v7 fun r8 g9 o10 =>
inA i6 8 (
ldH h2 r8 g9 ((o10 + 3) + Int.toNat i6 * 1) false 1 fun v11 =>
lenS v11 fun n12 =>
ldH h2 p0r p0g ((p0o + 0) + 0) false 1 fun v13 =>
nilS prog v13 fun v14 =>
fldS v14 fun r15 g16 o17 =>
ldH h2 r15 g16 (o17 + 2) false 1 fun v18 =>
asInt .i64 v18 fun i19 =>
cond (decide (n12 ≥ i19)) (
ldH h2 p0r p0g ((p0o + 0) + 0) false 1 fun v20 =>
ldH h2 p0r p0g ((p0o + 0) + 1) false 1 fun v21 =>
asInt .i64 v21 fun i22 =>
callB (C 24 [v20, .int .i64 i22] h2) fun v23 h24 =>
asBool v23 fun b25 =>
ldH h24 p0r p0g ((p0o + 0) + 0) false 1 fun v26 =>
ldH h24 p0r p0g ((p0o + 0) + 1) false 1 fun v27 =>
asInt .i64 v27 fun i28 =>
ldH h24 p0r p0g ((p0o + 0) + 0) false 1 fun v29 =>
ldH h24 p0r p0g ((p0o + 0) + 1) false 1 fun v30 =>
asInt .i64 v30 fun i31 =>
nilS prog v29 fun v32 =>
fldS v32 fun r33 g34 o35 =>
inA i31 8 (
ldH h24 r33 g34 ((o35 + 3) + Int.toNat i31 * 1) false 1 fun v36 =>
nilS prog v26 fun v37 =>
fldS v37 fun r38 g39 o40 =>
ldH h24 r33 g34 ((o35 + 3) + Int.toNat i31 * 1) false 1 fun v41 =>
sameV v41 v36 (
ldH h24 p0r p0g ((p0o + 0) + 1) false 1 fun v42 =>
asInt .i64 v42 fun i43 =>
sameV (.int .i64 i43) (.int .i64 i31) (
ldH h24 p0r p0g ((p0o + 0) + 0) false 1 fun v44 =>
sameV v44 v29 (
ldH h24 p0r p0g ((p0o + 0) + 1) false 1 fun v45 =>
asInt .i64 v45 fun i46 =>
sameV (.int .i64 i46) (.int .i64 i28) (
ldH h24 p0r p0g ((p0o + 0) + 0) false 1 fun v47 =>
sameV v47 v26 (
appendK 2 16 v36 [.int .i64 p1, .int .i64 p2] 1 h24 fun v48 h49 =>
ldH h49 p0r p0g ((p0o + 0) + 1) false 1 fun v50 =>
asInt .i64 v50 fun i51 =>
sameV (.int .i64 i51) (.int .i64 i28) (
ldH h49 p0r p0g ((p0o + 0) + 0) false 1 fun v52 =>
sameV v52 v26 (
inA i28 8 (
stH h49 r38 g39 ((o40 + 3) + Int.toNat i28 * 1) 1 v48 fun h53 =>
some (.int .i64 0, h53))))))))))) (
ldH h2 p0r p0g ((p0o + 0) + 0) false 1 fun v54 =>
ldH h2 p0r p0g ((p0o + 0) + 1) false 1 fun v55 =>
asInt .i64 v55 fun i56 =>
ldH h2 p0r p0g ((p0o + 0) + 0) false 1 fun v57 =>
ldH h2 p0r p0g ((p0o + 0) + 1) false 1 fun v58 =>
asInt .i64 v58 fun i59 =>
nilS prog v57 fun v60 =>
fldS v60 fun r61 g62 o63 =>
inA i59 8 (
ldH h2 r61 g62 ((o63 + 3) + Int.toNat i59 * 1) false 1 fun v64 =>
nilS prog v54 fun v65 =>
fldS v65 fun r66 g67 o68 =>
ldH h2 r61 g62 ((o63 + 3) + Int.toNat i59 * 1) false 1 fun v69 =>
sameV v69 v64 (
ldH h2 p0r p0g ((p0o + 0) + 1) false 1 fun v70 =>
asInt .i64 v70 fun i71 =>
sameV (.int .i64 i71) (.int .i64 i59) (
ldH h2 p0r p0g ((p0o + 0) + 0) false 1 fun v72 =>
sameV v72 v57 (
ldH h2 p0r p0g ((p0o + 0) + 1) false 1 fun v73 =>
asInt .i64 v73 fun i74 =>
sameV (.int .i64 i74) (.int .i64 i56) (
ldH h2 p0r p0g ((p0o + 0) + 0) false 1 fun v75 =>
sameV v75 v54 (
appendK 2 16 v64 [.int .i64 p1, .int .i64 p2] 1 h2 fun v76 h77 =>
ldH h77 p0r p0g ((p0o + 0) + 1) false 1 fun v78 =>
asInt .i64 v78 fun i79 =>
sameV (.int .i64 i79) (.int .i64 i56) (
ldH h77 p0r p0g ((p0o + 0) + 0) false 1 fun v80 =>
sameV v80 v54 (
inA i56 8 (
stH h77 r66 g67 ((o68 + 3) + Int.toNat i56 * 1) 1 v76 fun h81 =>
some (.int .i64 0, h81)))))))))))))
noncomputable def buffers_View_Store (C : AFun) (n : Nat) (p0r p0g p0o : Nat) (p1 p2 : Int) (h : Hp) : Option (V × Hp) := buffers_View_Store_M C n p0r p0g p0o p1 p2 h
theorem buffers_View_Store_eM (C : AFun) (n : Nat) (p0r p0g p0o : Nat) (p1 p2 : Int) (h : Hp) : bodyK E C 93 n Try.f93 [.ptr p0r p0g p0o, .int .i64 p1, .int .i64 p2] h = buffers_View_Store_M C n p0r p0g p0o p1 p2 h := by kernel_rfl
theorem buffers_View_Store_eq (n : Nat) (p0r p0g p0o : Nat) (p1 p2 : Int) (h : Hp) : ev E (n + 1) 93 [.ptr p0r p0g p0o, .int .i64 p1, .int .i64 p2] h = buffers_View_Store (ev E n) n p0r p0g p0o p1 p2 h := by
  rw [ev_body rfl Try.func93, buffers_View_Store_eM]
  rfl
/-! (*plunder/buffers.View).none (94) -/
noncomputable def buffers_View_none_M (C : AFun) (n : Nat) (p0r p0g p0o : Nat) (p1 : Int) (h : Hp) : Option (V × Hp) :=
ldH h p0r p0g ((p0o + 0) + 0) false 1 fun v1 =>
binK prog .eql 50 true v1 .nilp fun v2 =>
asBool v2 fun b3 =>
cond b3 (
some (.bool true, h)) (
cond (decide (p1 < 0)) (
some (.bool true, h)) (
ldH h p0r p0g ((p0o + 0) + 0) false 1 fun v4 =>
nilS prog v4 fun v5 =>
fldS v5 fun r6 g7 o8 =>
ldH h r6 g7 (o8 + 0) false 1 fun v9 =>
callB (C 84 [v9] h) fun v10 h11 =>
asInt .i64 v10 fun i12 =>
some (.bool (decide (p1 ≥ i12)), h11)))
noncomputable def buffers_View_none (C : AFun) (n : Nat) (p0r p0g p0o : Nat) (p1 : Int) (h : Hp) : Option (V × Hp) := buffers_View_none_M C n p0r p0g p0o p1 h
theorem buffers_View_none_eM (C : AFun) (n : Nat) (p0r p0g p0o : Nat) (p1 : Int) (h : Hp) : bodyK E C 94 n Try.f94 [.ptr p0r p0g p0o, .int .i64 p1] h = buffers_View_none_M C n p0r p0g p0o p1 h := by kernel_rfl
theorem buffers_View_none_eq (n : Nat) (p0r p0g p0o : Nat) (p1 : Int) (h : Hp) : ev E (n + 1) 94 [.ptr p0r p0g p0o, .int .i64 p1] h = buffers_View_none (ev E n) n p0r p0g p0o p1 h := by
  rw [ev_body rfl Try.func94, buffers_View_none_eM]
  rfl
/-! (*plunder/cells.Arena).Size (95) -/
noncomputable def cells_Arena_Size_M (C : AFun) (n : Nat) (p0r p0g p0o : Nat) (h : Hp) : Option (V × Hp) :=
callB (C 97 [.ptr p0r p0g (p0o + 0)] h) fun v1 h2 =>
asInt .i64 v1 fun i3 =>
some (.int .i64 i3, h2)
noncomputable def cells_Arena_Size (C : AFun) (n : Nat) (p0r p0g p0o : Nat) (h : Hp) : Option (V × Hp) := cells_Arena_Size_M C n p0r p0g p0o h
theorem cells_Arena_Size_eM (C : AFun) (n : Nat) (p0r p0g p0o : Nat) (h : Hp) : bodyK E C 95 n Try.f95 [.ptr p0r p0g p0o] h = cells_Arena_Size_M C n p0r p0g p0o h := by kernel_rfl
theorem cells_Arena_Size_eq (n : Nat) (p0r p0g p0o : Nat) (h : Hp) : ev E (n + 1) 95 [.ptr p0r p0g p0o] h = cells_Arena_Size (ev E n) n p0r p0g p0o h := by
  rw [ev_body rfl Try.func95, cells_Arena_Size_eM]
  rfl
/-! (*plunder/cells.ledger).Mark (96) -/
noncomputable def cells_ledger_Mark_M (C : AFun) (n : Nat) (p0r p0g p0o : Nat) (h : Hp) : Option (V × Hp) :=
ldH h p0r p0g (p0o + 1) false 1 fun v1 =>
asInt .i64 v1 fun i2 =>
some (.int .i64 i2, h)
noncomputable def cells_ledger_Mark (C : AFun) (n : Nat) (p0r p0g p0o : Nat) (h : Hp) : Option (V × Hp) := cells_ledger_Mark_M C n p0r p0g p0o h
theorem cells_ledger_Mark_eM (C : AFun) (n : Nat) (p0r p0g p0o : Nat) (h : Hp) : bodyK E C 96 n Try.f96 [.ptr p0r p0g p0o] h = cells_ledger_Mark_M C n p0r p0g p0o h := by kernel_rfl
theorem cells_ledger_Mark_eq (n : Nat) (p0r p0g p0o : Nat) (h : Hp) : ev E (n + 1) 96 [.ptr p0r p0g p0o] h = cells_ledger_Mark (ev E n) n p0r p0g p0o h := by
  rw [ev_body rfl Try.func96, cells_ledger_Mark_eM]
  rfl
/-! (*plunder/cells.ledger).Size (97) -/
noncomputable def cells_ledger_Size_M (C : AFun) (n : Nat) (p0r p0g p0o : Nat) (h : Hp) : Option (V × Hp) :=
ldH h p0r p0g (p0o + 0) false 1 fun v1 =>
asInt .i64 v1 fun i2 =>
some (.int .i64 i2, h)
noncomputable def cells_ledger_Size (C : AFun) (n : Nat) (p0r p0g p0o : Nat) (h : Hp) : Option (V × Hp) := cells_ledger_Size_M C n p0r p0g p0o h
theorem cells_ledger_Size_eM (C : AFun) (n : Nat) (p0r p0g p0o : Nat) (h : Hp) : bodyK E C 97 n Try.f97 [.ptr p0r p0g p0o] h = cells_ledger_Size_M C n p0r p0g p0o h := by kernel_rfl
theorem cells_ledger_Size_eq (n : Nat) (p0r p0g p0o : Nat) (h : Hp) : ev E (n + 1) 97 [.ptr p0r p0g p0o] h = cells_ledger_Size (ev E n) n p0r p0g p0o h := by
  rw [ev_body rfl Try.func97, cells_ledger_Size_eM]
  rfl
/-! (plunder/buffers.fencedView).Store (99) -/
noncomputable def buffers_fencedView_Store_M (C : AFun) (n : Nat) (p0_0 : V) (p1 p2 : Int) (h : Hp) : Option (V × Hp) :=
callB (C 93 [p0_0, .int .i64 p1, .int .i64 p2] h) fun v1 h2 =>
asInt .i64 v1 fun i3 =>
callB (C 90 [p0_0] h2) fun v4 h5 =>
some (.int .i64 i3, h5)
noncomputable def buffers_fencedView_Store (C : AFun) (n : Nat) (p0_0 : V) (p1 p2 : Int) (h : Hp) : Option (V × Hp) := buffers_fencedView_Store_M C n p0_0 p1 p2 h
theorem buffers_fencedView_Store_eM (C : AFun) (n : Nat) (p0_0 : V) (p1 p2 : Int) (h : Hp) : bodyK E C 99 n Try.f99 [.agg [p0_0], .int .i64 p1, .int .i64 p2] h = buffers_fencedView_Store_M C n p0_0 p1 p2 h := by kernel_rfl
theorem buffers_fencedView_Store_eq (n : Nat) (p0_0 : V) (p1 p2 : Int) (h : Hp) : ev E (n + 1) 99 [.agg [p0_0], .int .i64 p1, .int .i64 p2] h = buffers_fencedView_Store (ev E n) n p0_0 p1 p2 h := by
  rw [ev_body rfl Try.func99, buffers_fencedView_Store_eM]
  rfl
end Go.Ev.Ytkgfoiinbnhpbaa
