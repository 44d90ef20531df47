/- What the evaluator makes of the functions of the program, and the equations (printed by wip/emit/gentab.py). -/
import Derived.Test.YtkgfoiinbnhpbaaEvEnv
import Derived.KernelRfl
set_option linter.unusedVariables false
namespace Go.Ev.Ytkgfoiinbnhpbaa
open Go Go.Ev Go.Proofs
set_option maxRecDepth 100000
/-! plunder/plunderlaw21.BuffersTwice (4) -/
noncomputable def plunderlaw21_BuffersTwice_B4 (C : AFun) (n : Nat) (rec3 : V → Int → V → Int → Hp → Option (V × Hp)) (rec4 : V → Int → V → Int → Int → Hp → Option (V × Hp)) (t1 : V) (t2 : Int) (t3 : V) (t12 t13 : Int) (h : Hp) : Option (V × Hp) :=
cond (decide (t13 < t12)) (
idxS 2 t1 (.int .i64 t12) fun r87 g88 o89 =>
ldH h r87 g88 (o89 + 0) false 1 fun v90 =>
asInt .i64 v90 fun i91 =>
cond (i91 == 0) (
idxS 2 t1 (.int .i64 t13) fun r92 g93 o94 =>
ldH h r92 g93 (o94 + 0) false 1 fun v95 =>
asInt .i64 v95 fun i96 =>
cond (i96 == 0) (
idxS 2 t1 (.int .i64 t12) fun r97 g98 o99 =>
ldH h r97 g98 (o99 + 1) false 1 fun v100 =>
asInt .i64 v100 fun i101 =>
idxS 2 t1 (.int .i64 t13) fun r102 g103 o104 =>
ldH h r102 g103 (o104 + 1) false 1 fun v105 =>
asInt .i64 v105 fun i106 =>
cond (i101 == i106) (
some (.bool false, h)) (
rec4 t1 t2 t3 t12 (wr .i64 (t13 + 1)) h)) (
rec4 t1 t2 t3 t12 (wr .i64 (t13 + 1)) h)) (
rec4 t1 t2 t3 t12 (wr .i64 (t13 + 1)) h)) (
idxS 2 t1 (.int .i64 t12) fun r107 g108 o109 =>
ldH h r107 g108 (o109 + 0) false 1 fun v110 =>
asInt .i64 v110 fun i111 =>
cond (i111 == 0) (
idxS 2 t1 (.int .i64 t12) fun r112 g113 o114 =>
ldH h r112 g113 (o114 + 1) false 1 fun v115 =>
asInt .i64 v115 fun i116 =>
cond (decide (i116 < 0)) (
some (.bool false, h)) (
rec3 t1 t2 t3 (wr .i64 (t12 + 1)) h)) (
rec3 t1 t2 t3 (wr .i64 (t12 + 1)) h))
noncomputable def plunderlaw21_BuffersTwice_L4 (C : AFun) (n : Nat) (rec3 : V → Int → V → Int → Hp → Option (V × Hp)) : Nat → V → Int → V → Int → Int → Hp → Option (V × Hp)
  | 0, _, _, _, _, _, _ => none
  | m + 1, t1, t2, t3, t12, t13, h => plunderlaw21_BuffersTwice_B4 C n rec3 (plunderlaw21_BuffersTwice_L4 C n rec3 m) t1 t2 t3 t12 t13 h
noncomputable def plunderlaw21_BuffersTwice_B3 (C : AFun) (n : Nat) (loop4 : V → Int → V → Int → Int → Hp → Option (V × Hp)) (rec3 : V → Int → V → Int → Hp → Option (V × Hp)) (t1 : V) (t2 : Int) (t3 : V) (t12 : Int) (h : Hp) : Option (V × Hp) :=
lenS t1 fun n86 =>
cond (decide (t12 < n86)) (
loop4 t1 t2 t3 t12 0 h) (
callB (C 8 [.int .i64 4, .int .i64 4, t1, .int .i64 t2, .int .i64 8, .bool false, t3] h) fun v117 h118 =>
asTup v117 fun l119 =>
asCons l119 fun v120 l121 =>
asAgg v120 fun l122 =>
asCons l122 fun v123 l124 =>
asCons l124 fun v125 l126 =>
asCons l126 fun v127 l128 =>
asNil l128 (
asCons l121 fun v129 l130 =>
asInt .i64 v129 fun i131 =>
asNil l130 (
callB (C 8 [.int .i64 4, .int .i64 4, t1, .int .i64 t2, .int .i64 8, .bool true, t3] h118) fun v132 h133 =>
asTup v132 fun l134 =>
asCons l134 fun v135 l136 =>
asAgg v135 fun l137 =>
asCons l137 fun v138 l139 =>
asCons l139 fun v140 l141 =>
asCons l141 fun v142 l143 =>
asNil l143 (
asCons l136 fun v144 l145 =>
asInt .i64 v144 fun i146 =>
asNil l145 (
cond (i131 == 0) (
cond (i146 == 0) (
callB (C 12 [.agg [v123, v125, v127]] h133) fun v147 h148 =>
asInt .i64 v147 fun i149 =>
cond (decide (i149 ≥ 0)) (
callB (C 12 [.agg [v138, v140, v142]] h148) fun v150 h151 =>
asInt .i64 v150 fun i152 =>
some (.bool (decide (i152 < 0)), h151)) (
some (.bool false, h148))) (
some (.bool false, h133))) (
some (.bool false, h133)))))))
noncomputable def plunderlaw21_BuffersTwice_L3 (C : AFun) (n : Nat) : Nat → V → Int → V → Int → Hp → Option (V × Hp)
  | 0, _, _, _, _, _ => none
  | m + 1, t1, t2, t3, t12, h => plunderlaw21_BuffersTwice_B3 C n (plunderlaw21_BuffersTwice_L4 C n (plunderlaw21_BuffersTwice_L3 C n m) n) (plunderlaw21_BuffersTwice_L3 C n m) t1 t2 t3 t12 h
noncomputable def plunderlaw21_BuffersTwice_B2 (C : AFun) (n : Nat) (loop3 : V → Int → V → Int → Hp → Option (V × Hp)) (rec2 : V → Int → V → V → V → Int → Hp → Option (V × Hp)) (t1 : V) (t2 : Int) (t3 t6 t7 : V) (t10 : Int) (h : Hp) : Option (V × Hp) :=
lenS t7 fun n56 =>
cond (decide (t10 < n56)) (
idxS 2 t1 (.int .i64 t10) fun r57 g58 o59 =>
ldH h r57 g58 o59 true 2 fun v60 =>
asAgg v60 fun l61 =>
asCons l61 fun v62 l63 =>
asInt .i64 v62 fun i64 =>
asCons l63 fun v65 l66 =>
asInt .i64 v65 fun i67 =>
asNil l66 (
idxS 2 t7 (.int .i64 t10) fun r68 g69 o70 =>
ldH h r68 g69 o70 true 2 fun v71 =>
asAgg v71 fun l72 =>
asCons l72 fun v73 l74 =>
asInt .i64 v73 fun i75 =>
asCons l74 fun v76 l77 =>
asInt .i64 v76 fun i78 =>
asNil l77 (
cond (!((i64 == i75) && ((i67 == i78) && true))) (
some (.bool false, h)) (
rec2 t1 t2 t3 t6 t7 (wr .i64 (t10 + 1)) h)))) (
srcS 1 h t3 fun l79 n80 =>
appendK 1 8 .nils l79 n80 h fun v81 h82 =>
callB (C 11 [t6, t3] h82) fun v83 h84 =>
asBool v83 fun b85 =>
cond (!b85) (
some (.bool false, h84)) (
loop3 t1 t2 v81 0 h84))
noncomputable def plunderlaw21_BuffersTwice_L2 (C : AFun) (n : Nat) : Nat → V → Int → V → V → V → Int → Hp → Option (V × Hp)
  | 0, _, _, _, _, _, _, _ => none
  | m + 1, t1, t2, t3, t6, t7, t10, h => plunderlaw21_BuffersTwice_B2 C n (plunderlaw21_BuffersTwice_L3 C n n) (plunderlaw21_BuffersTwice_L2 C n m) t1 t2 t3 t6 t7 t10 h
noncomputable def plunderlaw21_BuffersTwice_B1 (C : AFun) (n : Nat) (loop2 : V → Int → V → V → V → Int → Hp → Option (V × Hp)) (rec1 : V → Int → V → V → V → V → Int → Hp → Option (V × Hp)) (t1 : V) (t2 : Int) (t3 t4 t6 t7 : V) (t9 : Int) (h : Hp) : Option (V × Hp) :=
cond (decide (t9 < 64)) (
appendK 2 16 t4 [.int .i64 (-8), .int .i64 0] 1 h fun v54 h55 =>
rec1 t1 t2 t3 v54 t6 t7 (wr .i64 (t9 + 1)) h55) (
loop2 t1 t2 t3 t6 t7 0 h)
noncomputable def plunderlaw21_BuffersTwice_L1 (C : AFun) (n : Nat) : Nat → V → Int → V → V → V → V → Int → Hp → Option (V × Hp)
  | 0, _, _, _, _, _, _, _, _ => none
  | m + 1, t1, t2, t3, t4, t6, t7, t9, h => plunderlaw21_BuffersTwice_B1 C n (plunderlaw21_BuffersTwice_L2 C n n) (plunderlaw21_BuffersTwice_L1 C n m) t1 t2 t3 t4 t6 t7 t9 h
noncomputable def plunderlaw21_BuffersTwice_B0 (C : AFun) (n : Nat) (loop1 : V → Int → V → V → V → V → Int → Hp → Option (V × Hp)) (rec0 : V → Int → V → V → V → V → Int → Hp → Option (V × Hp)) (t1 : V) (t2 : Int) (t3 t4 t6 t7 : V) (t8 : Int) (h : Hp) : Option (V × Hp) :=
lenS t4 fun n27 =>
cond (decide (t8 < n27)) (
idxS 2 t4 (.int .i64 t8) fun r28 g29 o30 =>
ldH h r28 g29 o30 true 2 fun v31 =>
asAgg v31 fun l32 =>
asCons l32 fun v33 l34 =>
asInt .i64 v33 fun i35 =>
asCons l34 fun v36 l37 =>
asInt .i64 v36 fun i38 =>
asNil l37 (
idxS 2 t1 (.int .i64 t8) fun r39 g40 o41 =>
ldH h r39 g40 o41 true 2 fun v42 =>
asAgg v42 fun l43 =>
asCons l43 fun v44 l45 =>
asInt .i64 v44 fun i46 =>
asCons l45 fun v47 l48 =>
asInt .i64 v47 fun i49 =>
asNil l48 (
cond (!((i35 == i46) && ((i38 == i49) && true))) (
some (.bool false, h)) (
idxS 2 t4 (.int .i64 t8) fun r50 g51 o52 =>
stH h r50 g51 o52 2 (.agg [.int .i64 (-7), .int .i64 0]) fun h53 =>
rec0 t1 t2 t3 t4 t6 t7 (wr .i64 (t8 + 1)) h53)))) (
loop1 t1 t2 t3 t4 t6 t7 0 h)
noncomputable def plunderlaw21_BuffersTwice_L0 (C : AFun) (n : Nat) : Nat → V → Int → V → V → V → V → Int → Hp → Option (V × Hp)
  | 0, _, _, _, _, _, _, _, _ => none
  | m + 1, t1, t2, t3, t4, t6, t7, t8, h => plunderlaw21_BuffersTwice_B0 C n (plunderlaw21_BuffersTwice_L1 C n n) (plunderlaw21_BuffersTwice_L0 C n m) t1 t2 t3 t4 t6 t7 t8 h
noncomputable def plunderlaw21_BuffersTwice_M (C : AFun) (n : Nat) (loop0 : V → Int → V → V → V → V → Int → Hp → Option (V × Hp))  (h : Hp) : Option (V × Hp) :=
callB (C 10 [] h) fun v1 h2 =>
asTup v1 fun l3 =>
asCons l3 fun v4 l5 =>
asCons l5 fun v6 l7 =>
asInt .i64 v6 fun i8 =>
asCons l7 fun v9 l10 =>
asNil l10 (
callB (C 10 [] h2) fun v11 h12 =>
asTup v11 fun l13 =>
asCons l13 fun v14 l15 =>
asCons l15 fun v16 l17 =>
asInt .i64 v16 fun i18 =>
asCons l17 fun v19 l20 =>
asNil l20 (
srcS 2 h12 v14 fun l21 n22 =>
appendK 2 16 .nils l21 n22 h12 fun v23 h24 =>
cond (i18 != i8) (
some (.bool false, h24)) (
lenS v14 fun n25 =>
lenS v4 fun n26 =>
cond (n25 != n26) (
some (.bool false, h24)) (
loop0 v4 i8 v9 v14 v19 v23 0 h24))))
noncomputable def plunderlaw21_BuffersTwice (C : AFun) (n : Nat)  (h : Hp) : Option (V × Hp) := plunderlaw21_BuffersTwice_M C n (plunderlaw21_BuffersTwice_L0 C n n) h
def plunderlaw21_BuffersTwice_F0 (t1 : V) (t2 : Int) (t3 t4 t6 t7 : V) (t8 : Int) : Fr := { tmps := [.bot, .v t1, .v (.int .i64 t2), .v t3, .v t4, .bot, .v t6, .v t7, .v (.int .i64 t8), .bot, .bot, .bot, .bot, .bot, .bot, .bot, .bot, .bot, .bot, .bot, .bot, .bot, .bot, .bot, .bot, .bot, .bot, .bot, .bot, .bot, .bot, .bot, .bot, .bot, .bot, .bot, .bot, .bot, .bot, .bot, .bot, .bot, .bot, .bot, .bot, .bot, .bot, .bot, .bot, .bot, .bot, .bot, .bot, .bot, .bot, .bot, .bot, .bot, .bot, .bot, .bot, .bot, .bot, .bot, .bot, .bot, .bot, .bot, .bot, .bot, .bot, .bot, .bot, .bot, .bot, .bot, .bot, .bot, .bot, .bot, .bot, .bot, .bot, .bot, .bot, .bot, .bot, .bot, .bot, .bot, .bot, .bot, .bot, .bot, .bot, .bot, .bot, .bot, .bot, .bot, .bot, .bot, .bot, .bot, .bot, .bot, .bot, .bot, .bot, .bot, .bot, .bot, .bot, .bot, .bot, .bot, .bot, .bot, .bot, .bot, .bot, .bot, .bot, .bot, .bot, .bot, .bot, .bot, .bot, .bot, .bot, .bot, .bot, .bot, .bot, .bot, .bot, .bot, .bot, .bot, .bot, .bot, .bot, .bot, .bot, .bot, .bot, .bot, .bot, .bot, .bot, .bot, .bot, .bot, .bot, .bot, .bot, .bot, .bot, .bot, .bot, .bot, .bot, .bot, .bot, .bot, .bot, .bot, .bot, .bot, .bot, .bot, .bot], vars := fun _ => none }
def plunderlaw21_BuffersTwice_F1 (t1 : V) (t2 : Int) (t3 t4 t6 t7 : V) (t9 : Int) : Fr := { tmps := [.bot, .v t1, .v (.int .i64 t2), .v t3, .v t4, .bot, .v t6, .v t7, .bot, .v (.int .i64 t9), .bot, .bot, .bot, .bot, .bot, .bot, .bot, .bot, .bot, .bot, .bot, .bot, .bot, .bot, .bot, .bot, .bot, .bot, .bot, .bot, .bot, .bot, .bot, .bot, .bot, .bot, .bot, .bot, .bot, .bot, .bot, .bot, .bot, .bot, .bot, .bot, .bot, .bot, .bot, .bot, .bot, .bot, .bot, .bot, .bot, .bot, .bot, .bot, .bot, .bot, .bot, .bot, .bot, .bot, .bot, .bot, .bot, .bot, .bot, .bot, .bot, .bot, .bot, .bot, .bot, .bot, .bot, .bot, .bot, .bot, .bot, .bot, .bot, .bot, .bot, .bot, .bot, .bot, .bot, .bot, .bot, .bot, .bot, .bot, .bot, .bot, .bot, .bot, .bot, .bot, .bot, .bot, .bot, .bot, .bot, .bot, .bot, .bot, .bot, .bot, .bot, .bot, .bot, .bot, .bot, .bot, .bot, .bot, .bot, .bot, .bot, .bot, .bot, .bot, .bot, .bot, .bot, .bot, .bot, .bot, .bot, .bot, .bot, .bot, .bot, .bot, .bot, .bot, .bot, .bot, .bot, .bot, .bot, .bot, .bot, .bot, .bot, .bot, .bot, .bot, .bot, .bot, .bot, .bot, .bot, .bot, .bot, .bot, .bot, .bot, .bot, .bot, .bot, .bot, .bot, .bot, .bot, .bot, .bot, .bot, .bot, .bot, .bot], vars := fun _ => none }
def plunderlaw21_BuffersTwice_F2 (t1 : V) (t2 : Int) (t3 t6 t7 : V) (t10 : Int) : Fr := { tmps := [.bot, .v t1, .v (.int .i64 t2), .v t3, .bot, .bot, .v t6, .v t7, .bot, .bot, .v (.int .i64 t10), .bot, .bot, .bot, .bot, .bot, .bot, .bot, .bot, .bot, .bot, .bot, .bot, .bot, .bot, .bot, .bot, .bot, .bot, .bot, .bot, .bot, .bot, .bot, .bot, .bot, .bot, .bot, .bot, .bot, .bot, .bot, .bot, .bot, .bot, .bot, .bot, .bot, .bot, .bot, .bot, .bot, .bot, .bot, .bot, .bot, .bot, .bot, .bot, .bot, .bot, .bot, .bot, .bot, .bot, .bot, .bot, .bot, .bot, .bot, .bot, .bot, .bot, .bot, .bot, .bot, .bot, .bot, .bot, .bot, .bot, .bot, .bot, .bot, .bot, .bot, .bot, .bot, .bot, .bot, .bot, .bot, .bot, .bot, .bot, .bot, .bot, .bot, .bot, .bot, .bot, .bot, .bot, .bot, .bot, .bot, .bot, .bot, .bot, .bot, .bot, .bot, .bot, .bot, .bot, .bot, .bot, .bot, .bot, .bot, .bot, .bot, .bot, .bot, .bot, .bot, .bot, .bot, .bot, .bot, .bot, .bot, .bot, .bot, .bot, .bot, .bot, .bot, .bot, .bot, .bot, .bot, .bot, .bot, .bot, .bot, .bot, .bot, .bot, .bot, .bot, .bot, .bot, .bot, .bot, .bot, .bot, .bot, .bot, .bot, .bot, .bot, .bot, .bot, .bot, .bot, .bot, .bot, .bot, .bot, .bot, .bot, .bot], vars := fun _ => none }
def plunderlaw21_BuffersTwice_F3 (t1 : V) (t2 : Int) (t3 : V) (t12 : Int) : Fr := { tmps := [.bot, .v t1, .v (.int .i64 t2), .v t3, .bot, .bot, .bot, .bot, .bot, .bot, .bot, .bot, .v (.int .i64 t12), .bot, .bot, .bot, .bot, .bot, .bot, .bot, .bot, .bot, .bot, .bot, .bot, .bot, .bot, .bot, .bot, .bot, .bot, .bot, .bot, .bot, .bot, .bot, .bot, .bot, .bot, .bot, .bot, .bot, .bot, .bot, .bot, .bot, .bot, .bot, .bot, .bot, .bot, .bot, .bot, .bot, .bot, .bot, .bot, .bot, .bot, .bot, .bot, .bot, .bot, .bot, .bot, .bot, .bot, .bot, .bot, .bot, .bot, .bot, .bot, .bot, .bot, .bot, .bot, .bot, .bot, .bot, .bot, .bot, .bot, .bot, .bot, .bot, .bot, .bot, .bot, .bot, .bot, .bot, .bot, .bot, .bot, .bot, .bot, .bot, .bot, .bot, .bot, .bot, .bot, .bot, .bot, .bot, .bot, .bot, .bot, .bot, .bot, .bot, .bot, .bot, .bot, .bot, .bot, .bot, .bot, .bot, .bot, .bot, .bot, .bot, .bot, .bot, .bot, .bot, .bot, .bot, .bot, .bot, .bot, .bot, .bot, .bot, .bot, .bot, .bot, .bot, .bot, .bot, .bot, .bot, .bot, .bot, .bot, .bot, .bot, .bot, .bot, .bot, .bot, .bot, .bot, .bot, .bot, .bot, .bot, .bot, .bot, .bot, .bot, .bot, .bot, .bot, .bot, .bot, .bot, .bot, .bot, .bot, .bot], vars := fun _ => none }
def plunderlaw21_BuffersTwice_F4 (t1 : V) (t2 : Int) (t3 : V) (t12 t13 : Int) : Fr := { tmps := [.bot, .v t1, .v (.int .i64 t2), .v t3, .bot, .bot, .bot, .bot, .bot, .bot, .bot, .bot, .v (.int .i64 t12), .v (.int .i64 t13), .bot, .bot, .bot, .bot, .bot, .bot, .bot, .bot, .bot, .bot, .bot, .bot, .bot, .bot, .bot, .bot, .bot, .bot, .bot, .bot, .bot, .bot, .bot, .bot, .bot, .bot, .bot, .bot, .bot, .bot, .bot, .bot, .bot, .bot, .bot, .bot, .bot, .bot, .bot, .bot, .bot, .bot, .bot, .bot, .bot, .bot, .bot, .bot, .bot, .bot, .bot, .bot, .bot, .bot, .bot, .bot, .bot, .bot, .bot, .bot, .bot, .bot, .bot, .bot, .bot, .bot, .bot, .bot, .bot, .bot, .bot, .bot, .bot, .bot, .bot, .bot, .bot, .bot, .bot, .bot, .bot, .bot, .bot, .bot, .bot, .bot, .bot, .bot, .bot, .bot, .bot, .bot, .bot, .bot, .bot, .bot, .bot, .bot, .bot, .bot, .bot, .bot, .bot, .bot, .bot, .bot, .bot, .bot, .bot, .bot, .bot, .bot, .bot, .bot, .bot, .bot, .bot, .bot, .bot, .bot, .bot, .bot, .bot, .bot, .bot, .bot, .bot, .bot, .bot, .bot, .bot, .bot, .bot, .bot, .bot, .bot, .bot, .bot, .bot, .bot, .bot, .bot, .bot, .bot, .bot, .bot, .bot, .bot, .bot, .bot, .bot, .bot, .bot, .bot, .bot, .bot, .bot, .bot, .bot], vars := fun _ => none }
theorem plunderlaw21_BuffersTwice_eB4 (C : AFun) (n : Nat) (rec3 : Fr → Hp → Option (V × Hp)) (rec4 : Fr → Hp → Option (V × Hp)) (t1 : V) (t2 : Int) (t3 : V) (t12 t13 : Int) (h : Hp) :
    codeK E C 4 n (cIn (cIn (cSeqR (cSeqL (cIn (cSeqL (cSeqR (cIn (cIn (cSeqR (cSeqL (cSeqR (cSeqR (cSeqR (cSeqR (cSeqR (cSeqR (cSeqR (cSeqR (cSeqR (cSeqR (cSeqR (cSeqR (cSeqR (cOf Try.f4))))))))))))))))))))))))) (plunderlaw21_BuffersTwice_F4 t1 t2 t3 t12 t13) h (kLoop (maskAt E 4 31) rec4 (kBlock 8 (kSeq E C 4 n (cSeqR (cIn (cSeqL (cSeqR (cIn (cIn (cSeqR (cSeqL (cSeqR (cSeqR (cSeqR (cSeqR (cSeqR (cSeqR (cSeqR (cSeqR (cSeqR (cSeqR (cSeqR (cSeqR (cSeqR (cOf Try.f4)))))))))))))))))))))) (kBlock 7 (kSeq E C 4 n (cSeqR (cSeqR (cIn (cIn (cSeqR (cSeqL (cSeqR (cSeqR (cSeqR (cSeqR (cSeqR (cSeqR (cSeqR (cSeqR (cSeqR (cSeqR (cSeqR (cSeqR (cSeqR (cOf Try.f4)))))))))))))))))))) (kLoop (maskAt E 4 28) rec3 (kBlock 6 (kSeq E C 4 n (cSeqR (cSeqR (cSeqR (cSeqR (cSeqR (cSeqR (cSeqR (cSeqR (cSeqR (cSeqR (cSeqR (cSeqR (cSeqR (cSeqR (cOf Try.f4))))))))))))))) (kTop prog Try.f4))))))))) = plunderlaw21_BuffersTwice_B4 C n (fun t1 t2 t3 t12 h => rec3 (plunderlaw21_BuffersTwice_F3 t1 t2 t3 t12) h) (fun t1 t2 t3 t12 t13 h => rec4 (plunderlaw21_BuffersTwice_F4 t1 t2 t3 t12 t13) h) t1 t2 t3 t12 t13 h := by kernel_rfl
theorem plunderlaw21_BuffersTwice_eL4 (C : AFun) (n : Nat) (rec3 : Fr → Hp → Option (V × Hp)) : ∀ m, (fun t1 t2 t3 t12 t13 h => loopK (codeK E C 4 n (cIn (cIn (cSeqR (cSeqL (cIn (cSeqL (cSeqR (cIn (cIn (cSeqR (cSeqL (cSeqR (cSeqR (cSeqR (cSeqR (cSeqR (cSeqR (cSeqR (cSeqR (cSeqR (cSeqR (cSeqR (cSeqR (cSeqR (cOf Try.f4)))))))))))))))))))))))))) (maskAt E 4 31) m (plunderlaw21_BuffersTwice_F4 t1 t2 t3 t12 t13) h (kBlock 8 (kSeq E C 4 n (cSeqR (cIn (cSeqL (cSeqR (cIn (cIn (cSeqR (cSeqL (cSeqR (cSeqR (cSeqR (cSeqR (cSeqR (cSeqR (cSeqR (cSeqR (cSeqR (cSeqR (cSeqR (cSeqR (cSeqR (cOf Try.f4)))))))))))))))))))))) (kBlock 7 (kSeq E C 4 n (cSeqR (cSeqR (cIn (cIn (cSeqR (cSeqL (cSeqR (cSeqR (cSeqR (cSeqR (cSeqR (cSeqR (cSeqR (cSeqR (cSeqR (cSeqR (cSeqR (cSeqR (cSeqR (cOf Try.f4)))))))))))))))))))) (kLoop (maskAt E 4 28) rec3 (kBlock 6 (kSeq E C 4 n (cSeqR (cSeqR (cSeqR (cSeqR (cSeqR (cSeqR (cSeqR (cSeqR (cSeqR (cSeqR (cSeqR (cSeqR (cSeqR (cSeqR (cOf Try.f4))))))))))))))) (kTop prog Try.f4))))))))) = plunderlaw21_BuffersTwice_L4 C n (fun t1 t2 t3 t12 h => rec3 (plunderlaw21_BuffersTwice_F3 t1 t2 t3 t12) h) m
  | 0 => rfl
  | m + 1 => by
    funext t1 t2 t3 t12 t13 h
    have ih := plunderlaw21_BuffersTwice_eL4 C n rec3 m
    have e := plunderlaw21_BuffersTwice_eB4 C n rec3 (fun F h => loopK (codeK E C 4 n (cIn (cIn (cSeqR (cSeqL (cIn (cSeqL (cSeqR (cIn (cIn (cSeqR (cSeqL (cSeqR (cSeqR (cSeqR (cSeqR (cSeqR (cSeqR (cSeqR (cSeqR (cSeqR (cSeqR (cSeqR (cSeqR (cSeqR (cOf Try.f4)))))))))))))))))))))))))) (maskAt E 4 31) m F h (kBlock 8 (kSeq E C 4 n (cSeqR (cIn (cSeqL (cSeqR (cIn (cIn (cSeqR (cSeqL (cSeqR (cSeqR (cSeqR (cSeqR (cSeqR (cSeqR (cSeqR (cSeqR (cSeqR (cSeqR (cSeqR (cSeqR (cSeqR (cOf Try.f4)))))))))))))))))))))) (kBlock 7 (kSeq E C 4 n (cSeqR (cSeqR (cIn (cIn (cSeqR (cSeqL (cSeqR (cSeqR (cSeqR (cSeqR (cSeqR (cSeqR (cSeqR (cSeqR (cSeqR (cSeqR (cSeqR (cSeqR (cSeqR (cOf Try.f4)))))))))))))))))))) (kLoop (maskAt E 4 28) rec3 (kBlock 6 (kSeq E C 4 n (cSeqR (cSeqR (cSeqR (cSeqR (cSeqR (cSeqR (cSeqR (cSeqR (cSeqR (cSeqR (cSeqR (cSeqR (cSeqR (cSeqR (cOf Try.f4))))))))))))))) (kTop prog Try.f4))))))))) t1 t2 t3 t12 t13 h
    refine (loopK_succ _ _ _ _ _ _).trans (Eq.trans e ?_)
    simp only [ih]
    rfl
theorem plunderlaw21_BuffersTwice_eB3 (C : AFun) (n : Nat) (rec3 : Fr → Hp → Option (V × Hp)) (t1 : V) (t2 : Int) (t3 : V) (t12 : Int) (h : Hp) :
    codeK E C 4 n (cIn (cIn (cSeqR (cSeqL (cSeqR (cSeqR (cSeqR (cSeqR (cSeqR (cSeqR (cSeqR (cSeqR (cSeqR (cSeqR (cSeqR (cSeqR (cSeqR (cOf Try.f4)))))))))))))))))) (plunderlaw21_BuffersTwice_F3 t1 t2 t3 t12) h (kLoop (maskAt E 4 28) rec3 (kBlock 6 (kSeq E C 4 n (cSeqR (cSeqR (cSeqR (cSeqR (cSeqR (cSeqR (cSeqR (cSeqR (cSeqR (cSeqR (cSeqR (cSeqR (cSeqR (cSeqR (cOf Try.f4))))))))))))))) (kTop prog Try.f4)))) = plunderlaw21_BuffersTwice_B3 C n (fun t1 t2 t3 t12 t13 h => loopK (codeK E C 4 n (cIn (cIn (cSeqR (cSeqL (cIn (cSeqL (cSeqR (cIn (cIn (cSeqR (cSeqL (cSeqR (cSeqR (cSeqR (cSeqR (cSeqR (cSeqR (cSeqR (cSeqR (cSeqR (cSeqR (cSeqR (cSeqR (cSeqR (cOf Try.f4)))))))))))))))))))))))))) (maskAt E 4 31) n (plunderlaw21_BuffersTwice_F4 t1 t2 t3 t12 t13) h (kBlock 8 (kSeq E C 4 n (cSeqR (cIn (cSeqL (cSeqR (cIn (cIn (cSeqR (cSeqL (cSeqR (cSeqR (cSeqR (cSeqR (cSeqR (cSeqR (cSeqR (cSeqR (cSeqR (cSeqR (cSeqR (cSeqR (cSeqR (cOf Try.f4)))))))))))))))))))))) (kBlock 7 (kSeq E C 4 n (cSeqR (cSeqR (cIn (cIn (cSeqR (cSeqL (cSeqR (cSeqR (cSeqR (cSeqR (cSeqR (cSeqR (cSeqR (cSeqR (cSeqR (cSeqR (cSeqR (cSeqR (cSeqR (cOf Try.f4)))))))))))))))))))) (kLoop (maskAt E 4 28) rec3 (kBlock 6 (kSeq E C 4 n (cSeqR (cSeqR (cSeqR (cSeqR (cSeqR (cSeqR (cSeqR (cSeqR (cSeqR (cSeqR (cSeqR (cSeqR (cSeqR (cSeqR (cOf Try.f4))))))))))))))) (kTop prog Try.f4))))))))) (fun t1 t2 t3 t12 h => rec3 (plunderlaw21_BuffersTwice_F3 t1 t2 t3 t12) h) t1 t2 t3 t12 h := by kernel_rfl
theorem plunderlaw21_BuffersTwice_eL3 (C : AFun) (n : Nat) : ∀ m, (fun t1 t2 t3 t12 h => loopK (codeK E C 4 n (cIn (cIn (cSeqR (cSeqL (cSeqR (cSeqR (cSeqR (cSeqR (cSeqR (cSeqR (cSeqR (cSeqR (cSeqR (cSeqR (cSeqR (cSeqR (cSeqR (cOf Try.f4))))))))))))))))))) (maskAt E 4 28) m (plunderlaw21_BuffersTwice_F3 t1 t2 t3 t12) h (kBlock 6 (kSeq E C 4 n (cSeqR (cSeqR (cSeqR (cSeqR (cSeqR (cSeqR (cSeqR (cSeqR (cSeqR (cSeqR (cSeqR (cSeqR (cSeqR (cSeqR (cOf Try.f4))))))))))))))) (kTop prog Try.f4)))) = plunderlaw21_BuffersTwice_L3 C n m
  | 0 => rfl
  | m + 1 => by
    funext t1 t2 t3 t12 h
    have ih := plunderlaw21_BuffersTwice_eL3 C n m
    have e := plunderlaw21_BuffersTwice_eB3 C n (fun F h => loopK (codeK E C 4 n (cIn (cIn (cSeqR (cSeqL (cSeqR (cSeqR (cSeqR (cSeqR (cSeqR (cSeqR (cSeqR (cSeqR (cSeqR (cSeqR (cSeqR (cSeqR (cSeqR (cOf Try.f4))))))))))))))))))) (maskAt E 4 28) m F h (kBlock 6 (kSeq E C 4 n (cSeqR (cSeqR (cSeqR (cSeqR (cSeqR (cSeqR (cSeqR (cSeqR (cSeqR (cSeqR (cSeqR (cSeqR (cSeqR (cSeqR (cOf Try.f4))))))))))))))) (kTop prog Try.f4)))) t1 t2 t3 t12 h
    have e4 := plunderlaw21_BuffersTwice_eL4 C n (fun F h => loopK (codeK E C 4 n (cIn (cIn (cSeqR (cSeqL (cSeqR (cSeqR (cSeqR (cSeqR (cSeqR (cSeqR (cSeqR (cSeqR (cSeqR (cSeqR (cSeqR (cSeqR (cSeqR (cOf Try.f4))))))))))))))))))) (maskAt E 4 28) m F h (kBlock 6 (kSeq E C 4 n (cSeqR (cSeqR (cSeqR (cSeqR (cSeqR (cSeqR (cSeqR (cSeqR (cSeqR (cSeqR (cSeqR (cSeqR (cSeqR (cSeqR (cOf Try.f4))))))))))))))) (kTop prog Try.f4)))) n
    refine (loopK_succ _ _ _ _ _ _).trans (Eq.trans e ?_)
    rw [e4]
    simp only [ih]
    rfl
theorem plunderlaw21_BuffersTwice_eB2 (C : AFun) (n : Nat) (rec2 : Fr → Hp → Option (V × Hp)) (t1 : V) (t2 : Int) (t3 t6 t7 : V) (t10 : Int) (h : Hp) :
    codeK E C 4 n (cIn (cIn (cSeqR (cSeqL (cSeqR (cSeqR (cSeqR (cSeqR (cSeqR (cSeqR (cSeqR (cSeqR (cOf Try.f4))))))))))))) (plunderlaw21_BuffersTwice_F2 t1 t2 t3 t6 t7 t10) h (kLoop (maskAt E 4 18) rec2 (kBlock 4 (kSeq E C 4 n (cSeqR (cSeqR (cSeqR (cSeqR (cSeqR (cSeqR (cSeqR (cSeqR (cSeqR (cOf Try.f4)))))))))) (kTop prog Try.f4)))) = plunderlaw21_BuffersTwice_B2 C n (fun t1 t2 t3 t12 h => loopK (codeK E C 4 n (cIn (cIn (cSeqR (cSeqL (cSeqR (cSeqR (cSeqR (cSeqR (cSeqR (cSeqR (cSeqR (cSeqR (cSeqR (cSeqR (cSeqR (cSeqR (cSeqR (cOf Try.f4))))))))))))))))))) (maskAt E 4 28) n (plunderlaw21_BuffersTwice_F3 t1 t2 t3 t12) h (kBlock 6 (kSeq E C 4 n (cSeqR (cSeqR (cSeqR (cSeqR (cSeqR (cSeqR (cSeqR (cSeqR (cSeqR (cSeqR (cSeqR (cSeqR (cSeqR (cSeqR (cOf Try.f4))))))))))))))) (kTop prog Try.f4)))) (fun t1 t2 t3 t6 t7 t10 h => rec2 (plunderlaw21_BuffersTwice_F2 t1 t2 t3 t6 t7 t10) h) t1 t2 t3 t6 t7 t10 h := by kernel_rfl
theorem plunderlaw21_BuffersTwice_eL2 (C : AFun) (n : Nat) : ∀ m, (fun t1 t2 t3 t6 t7 t10 h => loopK (codeK E C 4 n (cIn (cIn (cSeqR (cSeqL (cSeqR (cSeqR (cSeqR (cSeqR (cSeqR (cSeqR (cSeqR (cSeqR (cOf Try.f4)))))))))))))) (maskAt E 4 18) m (plunderlaw21_BuffersTwice_F2 t1 t2 t3 t6 t7 t10) h (kBlock 4 (kSeq E C 4 n (cSeqR (cSeqR (cSeqR (cSeqR (cSeqR (cSeqR (cSeqR (cSeqR (cSeqR (cOf Try.f4)))))))))) (kTop prog Try.f4)))) = plunderlaw21_BuffersTwice_L2 C n m
  | 0 => rfl
  | m + 1 => by
    funext t1 t2 t3 t6 t7 t10 h
    have ih := plunderlaw21_BuffersTwice_eL2 C n m
    have e := plunderlaw21_BuffersTwice_eB2 C n (fun F h => loopK (codeK E C 4 n (cIn (cIn (cSeqR (cSeqL (cSeqR (cSeqR (cSeqR (cSeqR (cSeqR (cSeqR (cSeqR (cSeqR (cOf Try.f4)))))))))))))) (maskAt E 4 18) m F h (kBlock 4 (kSeq E C 4 n (cSeqR (cSeqR (cSeqR (cSeqR (cSeqR (cSeqR (cSeqR (cSeqR (cSeqR (cOf Try.f4)))))))))) (kTop prog Try.f4)))) t1 t2 t3 t6 t7 t10 h
    have e3 := plunderlaw21_BuffersTwice_eL3 C n n
    refine (loopK_succ _ _ _ _ _ _).trans (Eq.trans e ?_)
    rw [e3]
    simp only [ih]
    rfl
theorem plunderlaw21_BuffersTwice_eB1 (C : AFun) (n : Nat) (rec1 : Fr → Hp → Option (V × Hp)) (t1 : V) (t2 : Int) (t3 t4 t6 t7 : V) (t9 : Int) (h : Hp) :
    codeK E C 4 n (cIn (cIn (cSeqR (cSeqL (cSeqR (cSeqR (cSeqR (cSeqR (cSeqR (cSeqR (cSeqR (cOf Try.f4)))))))))))) (plunderlaw21_BuffersTwice_F1 t1 t2 t3 t4 t6 t7 t9) h (kLoop (maskAt E 4 14) rec1 (kBlock 2 (kSeq E C 4 n (cSeqR (cSeqR (cSeqR (cSeqR (cSeqR (cSeqR (cSeqR (cSeqR (cOf Try.f4))))))))) (kTop prog Try.f4)))) = plunderlaw21_BuffersTwice_B1 C n (fun t1 t2 t3 t6 t7 t10 h => loopK (codeK E C 4 n (cIn (cIn (cSeqR (cSeqL (cSeqR (cSeqR (cSeqR (cSeqR (cSeqR (cSeqR (cSeqR (cSeqR (cOf Try.f4)))))))))))))) (maskAt E 4 18) n (plunderlaw21_BuffersTwice_F2 t1 t2 t3 t6 t7 t10) h (kBlock 4 (kSeq E C 4 n (cSeqR (cSeqR (cSeqR (cSeqR (cSeqR (cSeqR (cSeqR (cSeqR (cSeqR (cOf Try.f4)))))))))) (kTop prog Try.f4)))) (fun t1 t2 t3 t4 t6 t7 t9 h => rec1 (plunderlaw21_BuffersTwice_F1 t1 t2 t3 t4 t6 t7 t9) h) t1 t2 t3 t4 t6 t7 t9 h := by kernel_rfl
theorem plunderlaw21_BuffersTwice_eL1 (C : AFun) (n : Nat) : ∀ m, (fun t1 t2 t3 t4 t6 t7 t9 h => loopK (codeK E C 4 n (cIn (cIn (cSeqR (cSeqL (cSeqR (cSeqR (cSeqR (cSeqR (cSeqR (cSeqR (cSeqR (cOf Try.f4))))))))))))) (maskAt E 4 14) m (plunderlaw21_BuffersTwice_F1 t1 t2 t3 t4 t6 t7 t9) h (kBlock 2 (kSeq E C 4 n (cSeqR (cSeqR (cSeqR (cSeqR (cSeqR (cSeqR (cSeqR (cSeqR (cOf Try.f4))))))))) (kTop prog Try.f4)))) = plunderlaw21_BuffersTwice_L1 C n m
  | 0 => rfl
  | m + 1 => by
    funext t1 t2 t3 t4 t6 t7 t9 h
    have ih := plunderlaw21_BuffersTwice_eL1 C n m
    have e := plunderlaw21_BuffersTwice_eB1 C n (fun F h => loopK (codeK E C 4 n (cIn (cIn (cSeqR (cSeqL (cSeqR (cSeqR (cSeqR (cSeqR (cSeqR (cSeqR (cSeqR (cOf Try.f4))))))))))))) (maskAt E 4 14) m F h (kBlock 2 (kSeq E C 4 n (cSeqR (cSeqR (cSeqR (cSeqR (cSeqR (cSeqR (cSeqR (cSeqR (cOf Try.f4))))))))) (kTop prog Try.f4)))) t1 t2 t3 t4 t6 t7 t9 h
    have e2 := plunderlaw21_BuffersTwice_eL2 C n n
    refine (loopK_succ _ _ _ _ _ _).trans (Eq.trans e ?_)
    rw [e2]
    simp only [ih]
    rfl
theorem plunderlaw21_BuffersTwice_eB0 (C : AFun) (n : Nat) (rec0 : Fr → Hp → Option (V × Hp)) (t1 : V) (t2 : Int) (t3 t4 t6 t7 : V) (t8 : Int) (h : Hp) :
    codeK E C 4 n (cIn (cIn (cSeqR (cSeqL (cSeqR (cSeqR (cSeqR (cSeqR (cSeqR (cSeqR (cOf Try.f4))))))))))) (plunderlaw21_BuffersTwice_F0 t1 t2 t3 t4 t6 t7 t8) h (kLoop (maskAt E 4 8) rec0 (kBlock 0 (kSeq E C 4 n (cSeqR (cSeqR (cSeqR (cSeqR (cSeqR (cSeqR (cSeqR (cOf Try.f4)))))))) (kTop prog Try.f4)))) = plunderlaw21_BuffersTwice_B0 C n (fun t1 t2 t3 t4 t6 t7 t9 h => loopK (codeK E C 4 n (cIn (cIn (cSeqR (cSeqL (cSeqR (cSeqR (cSeqR (cSeqR (cSeqR (cSeqR (cSeqR (cOf Try.f4))))))))))))) (maskAt E 4 14) n (plunderlaw21_BuffersTwice_F1 t1 t2 t3 t4 t6 t7 t9) h (kBlock 2 (kSeq E C 4 n (cSeqR (cSeqR (cSeqR (cSeqR (cSeqR (cSeqR (cSeqR (cSeqR (cOf Try.f4))))))))) (kTop prog Try.f4)))) (fun t1 t2 t3 t4 t6 t7 t8 h => rec0 (plunderlaw21_BuffersTwice_F0 t1 t2 t3 t4 t6 t7 t8) h) t1 t2 t3 t4 t6 t7 t8 h := by kernel_rfl
theorem plunderlaw21_BuffersTwice_eL0 (C : AFun) (n : Nat) : ∀ m, (fun t1 t2 t3 t4 t6 t7 t8 h => loopK (codeK E C 4 n (cIn (cIn (cSeqR (cSeqL (cSeqR (cSeqR (cSeqR (cSeqR (cSeqR (cSeqR (cOf Try.f4)))))))))))) (maskAt E 4 8) m (plunderlaw21_BuffersTwice_F0 t1 t2 t3 t4 t6 t7 t8) h (kBlock 0 (kSeq E C 4 n (cSeqR (cSeqR (cSeqR (cSeqR (cSeqR (cSeqR (cSeqR (cOf Try.f4)))))))) (kTop prog Try.f4)))) = plunderlaw21_BuffersTwice_L0 C n m
  | 0 => rfl
  | m + 1 => by
    funext t1 t2 t3 t4 t6 t7 t8 h
    have ih := plunderlaw21_BuffersTwice_eL0 C n m
    have e := plunderlaw21_BuffersTwice_eB0 C n (fun F h => loopK (codeK E C 4 n (cIn (cIn (cSeqR (cSeqL (cSeqR (cSeqR (cSeqR (cSeqR (cSeqR (cSeqR (cOf Try.f4)))))))))))) (maskAt E 4 8) m F h (kBlock 0 (kSeq E C 4 n (cSeqR (cSeqR (cSeqR (cSeqR (cSeqR (cSeqR (cSeqR (cOf Try.f4)))))))) (kTop prog Try.f4)))) t1 t2 t3 t4 t6 t7 t8 h
    have e1 := plunderlaw21_BuffersTwice_eL1 C n n
    refine (loopK_succ _ _ _ _ _ _).trans (Eq.trans e ?_)
    rw [e1]
    simp only [ih]
    rfl
theorem plunderlaw21_BuffersTwice_eM (C : AFun) (n : Nat)  (h : Hp) : bodyK E C 4 n Try.f4 [] h = plunderlaw21_BuffersTwice_M C n (fun t1 t2 t3 t4 t6 t7 t8 h => loopK (codeK E C 4 n (cIn (cIn (cSeqR (cSeqL (cSeqR (cSeqR (cSeqR (cSeqR (cSeqR (cSeqR (cOf Try.f4)))))))))))) (maskAt E 4 8) n (plunderlaw21_BuffersTwice_F0 t1 t2 t3 t4 t6 t7 t8) h (kBlock 0 (kSeq E C 4 n (cSeqR (cSeqR (cSeqR (cSeqR (cSeqR (cSeqR (cSeqR (cOf Try.f4)))))))) (kTop prog Try.f4)))) h := by kernel_rfl
theorem plunderlaw21_BuffersTwice_eq (n : Nat)  (h : Hp) : ev E (n + 1) 4 [] h = plunderlaw21_BuffersTwice (ev E n) n h := by
  rw [ev_body rfl Try.func4, plunderlaw21_BuffersTwice_eM]
  rw [plunderlaw21_BuffersTwice_eL0 (ev E n) n n]
  rfl
/-! plunder/buffers.Deque (8) -/
noncomputable def buffers_Deque_B2 (C : AFun) (n : Nat) (rec2 : V → Nat → Nat → Nat → Int → Int → V → V → V → Hp → Option (V × Hp)) (t17 : V) (t20r t20g t20o : Nat) (t128 t129 : Int) (w14_0 w14_1 w14_2 : V) (h : Hp) : Option (V × Hp) :=
cond (decide (t129 < t128)) (
callB (C 22 [t17, .int .i64 t129] h) fun v92 h93 =>
rec2 t17 t20r t20g t20o t128 (wr .i64 (t129 + 1)) w14_0 w14_1 w14_2 h93) (
ldH h t20r t20g (t20o + 6) false 1 fun v94 =>
callB (C 26 [.ptr t20r t20g t20o] h) fun v95 h96 =>
ldH h96 t20r t20g (t20o + 6) false 1 fun v97 =>
sameV v97 v94 (
callB (C 27 [t17] h96) fun v98 h99 =>
ldH h99 t20r t20g (t20o + 6) false 1 fun v100 =>
sameV v100 v94 (
fillB (fun i => [(0, 1), (1, 1), (2, 1)][i]?) [.nils, .nils, .nils] [(0, v94), (1, v95), (2, v98)] fun l101 =>
asCons l101 fun v102 l103 =>
asCons l103 fun v104 l105 =>
asCons l105 fun v106 l107 =>
asNil l107 (
some (.tup [.agg [v102, v104, v106], .int .i64 0], h99)))))
noncomputable def buffers_Deque_L2 (C : AFun) (n : Nat) : Nat → V → Nat → Nat → Nat → Int → Int → V → V → V → Hp → Option (V × Hp)
  | 0, _, _, _, _, _, _, _, _, _, _ => none
  | m + 1, t17, t20r, t20g, t20o, t128, t129, w14_0, w14_1, w14_2, h => buffers_Deque_B2 C n (buffers_Deque_L2 C n m) t17 t20r t20g t20o t128 t129 w14_0 w14_1 w14_2 h
noncomputable def buffers_Deque_B1 (C : AFun) (n : Nat) (loop2 : V → Nat → Nat → Nat → Int → Int → V → V → V → Hp → Option (V × Hp)) (rec1 : Int → V → Nat → Nat → Nat → V → Int → Int → V → V → V → Hp → Option (V × Hp)) (t3 : Int) (t17 : V) (t20r t20g t20o : Nat) (t101 : V) (t102 t103 : Int) (w14_0 w14_1 w14_2 : V) (h : Hp) : Option (V × Hp) :=
cond (decide (t103 < t102)) (
idxS 1 t101 (.int .i64 t103) fun r79 g80 o81 =>
ldH h r79 g80 o81 false 1 fun v82 =>
asInt .i64 v82 fun i83 =>
callB (C 23 [.int .i64 i83, .int .i64 (wr .i64 ((2 : Int) * (wr .i64 ((1 : Int) + t3))))] h) fun v84 h85 =>
asInt .i64 v84 fun i86 =>
cond (decide (i86 > t3)) (
callB (C 24 [t17, .int .i64 (wr .i64 ((wr .i64 (i86 - 1)) - t3))] h85) fun v87 h88 =>
asBool v87 fun b89 =>
rec1 t3 t17 t20r t20g t20o t101 t102 (wr .i64 (t103 + 1)) w14_0 w14_1 w14_2 h88) (
callB (C 25 [.ptr t20r t20g t20o, .int .i64 t103, .int .i64 i86] h85) fun v90 h91 =>
rec1 t3 t17 t20r t20g t20o t101 t102 (wr .i64 (t103 + 1)) w14_0 w14_1 w14_2 h91)) (
loop2 t17 t20r t20g t20o (wr .i64 ((1 : Int) + t3)) 0 w14_0 w14_1 w14_2 h)
noncomputable def buffers_Deque_L1 (C : AFun) (n : Nat) : Nat → Int → V → Nat → Nat → Nat → V → Int → Int → V → V → V → Hp → Option (V × Hp)
  | 0, _, _, _, _, _, _, _, _, _, _, _, _ => none
  | m + 1, t3, t17, t20r, t20g, t20o, t101, t102, t103, w14_0, w14_1, w14_2, h => buffers_Deque_B1 C n (buffers_Deque_L2 C n n) (buffers_Deque_L1 C n m) t3 t17 t20r t20g t20o t101 t102 t103 w14_0 w14_1 w14_2 h
noncomputable def buffers_Deque_B0 (C : AFun) (n : Nat) (loop1 : Int → V → Nat → Nat → Nat → V → Int → Int → V → V → V → Hp → Option (V × Hp)) (rec0 : Int → V → V → Nat → Nat → Nat → Int → Int → V → V → V → Hp → Option (V × Hp)) (t3 : Int) (t6 t17 : V) (t20r t20g t20o : Nat) (t89 t90 : Int) (w14_0 w14_1 w14_2 : V) (h : Hp) : Option (V × Hp) :=
cond (decide (t90 < t89)) (
ldH h t20r t20g (t20o + 5) false 1 fun v73 =>
idxS 17 v73 (.int .i64 t90) fun r74 g75 o76 =>
stH h r74 g75 (o76 + 16) 1 (.int .i64 (-1)) fun h77 =>
rec0 t3 t6 t17 t20r t20g t20o t89 (wr .i64 (t90 + 1)) w14_0 w14_1 w14_2 h77) (
lenS t6 fun n78 =>
loop1 t3 t17 t20r t20g t20o t6 n78 0 w14_0 w14_1 w14_2 h)
noncomputable def buffers_Deque_L0 (C : AFun) (n : Nat) : Nat → Int → V → V → Nat → Nat → Nat → Int → Int → V → V → V → Hp → Option (V × Hp)
  | 0, _, _, _, _, _, _, _, _, _, _, _, _ => none
  | m + 1, t3, t6, t17, t20r, t20g, t20o, t89, t90, w14_0, w14_1, w14_2, h => buffers_Deque_B0 C n (buffers_Deque_L1 C n n) (buffers_Deque_L0 C n m) t3 t6 t17 t20r t20g t20o t89 t90 w14_0 w14_1 w14_2 h
noncomputable def buffers_Deque_M (C : AFun) (n : Nat) (loop0 : Int → V → V → Nat → Nat → Nat → Int → Int → V → V → V → Hp → Option (V × Hp)) (p0 p1 : Int) (p2 : V) (p3 p4 : Int) (p5 : Bool) (p6 : V) (h : Hp) : Option (V × Hp) :=
callB (C 16 [.int .i64 p0, .int .i64 p1, p2, .int .i64 p3, .int .i64 p4, p6] h) fun v1 h2 =>
asInt .i64 v1 fun i3 =>
cond (i3 != 0) (
some (.tup [.agg [.nils, .nils, .nils], .int .i64 i3], h2)) (
callB (C 18 [.int .i64 p0, .int .i64 p1] h2) fun v4 h5 =>
asInt .i64 v4 fun i6 =>
callB (C 17 [.int .i64 i6, .int .i64 (wr .i64 ((1 : Int) + p3)), .int .i64 p4] h5) fun v7 h8 =>
asTup v7 fun l9 =>
asCons l9 fun v10 l11 =>
asCons l11 fun v12 l13 =>
asInt .i64 v12 fun i14 =>
asNil l13 (
cond (i14 != 0) (
some (.tup [.agg [.nils, .nils, .nils], .int .i64 i14], h8)) (
nilS prog v10 fun v15 =>
fldS v15 fun r16 g17 o18 =>
ldH h8 r16 g17 (o18 + 0) false 1 fun v19 =>
callB (C 19 [v19, .bool false] h8) fun v20 h21 =>
callB (C 21 [v10, .int .i64 0] h21) fun v22 h23 =>
callB (C 20 [.iface 68 v22, .int .i64 p0, .int .i64 p1] h23) fun v24 h25 =>
asTup v24 fun l26 =>
asCons l26 fun v27 l28 =>
asAgg v27 fun l29 =>
asCons l29 fun v30 l31 =>
asInt .i64 v30 fun i32 =>
asCons l31 fun v33 l34 =>
asInt .i64 v33 fun i35 =>
asNil l34 (
asCons l28 fun v36 l37 =>
asInt .i64 v36 fun i38 =>
asNil l37 (
cond (i38 != 0) (
some (.tup [.agg [.nils, .nils, .nils], .int .i64 i38], h25)) (
callB (C 22 [v10, .int .i64 0] h25) fun v39 h40 =>
nilS prog v10 fun v41 =>
fldS v41 fun r42 g43 o44 =>
ldH h40 r42 g43 (o44 + 0) false 1 fun v45 =>
callB (C 19 [v45, .bool true] h40) fun v46 h47 =>
mkS [.int .i64 0, .int .i64 0, .int .i64 0, .int .i64 0, .int .i64 0, .int .i64 0, .int .i64 0, .int .i64 0, .int .i64 0, .int .i64 0, .int .i64 0, .int .i64 0, .int .i64 0, .bool false, .int .i64 0, .int .i64 0, .int .i64 0] 17 136 (wr .i64 ((1 : Int) + p3)) (wr .i64 ((1 : Int) + p3)) h47 fun r48 n49 h50 =>
sameV (.agg [.int .i64 i32, .int .i64 i35]) (.agg [.int .i64 i32, .int .i64 i35]) (
fillB (fun i => [(0, 1), (1, 2), (3, 1), (4, 1), (5, 1), (6, 1)][i]?) [.nilp, .int .i64 0, .int .i64 0, .bool false, .nils, .nils, .nils] [(0, v10), (1, .agg [.int .i64 i32, .int .i64 i35]), (2, .bool p5), (3, p2), (4, .sl r48 n49 17 0 n49)] fun l51 =>
asCons l51 fun v52 l53 =>
asCons l53 fun v54 l55 =>
asInt .i64 v54 fun i56 =>
asCons l55 fun v57 l58 =>
asInt .i64 v57 fun i59 =>
asCons l58 fun v60 l61 =>
asBool v60 fun b62 =>
asCons l61 fun v63 l64 =>
asCons l64 fun v65 l66 =>
asCons l66 fun v67 l68 =>
asNil l68 (
newB h50 { cells := [v52, .int .i64 i56, .int .i64 i59, .bool b62, v63, v65, v67], size := 7, bytes := 104, clean := 0, ro := false } fun r69 h70 =>
ldH h70 r69 1 5 false 1 fun v71 =>
lenS v71 fun n72 =>
loop0 p3 p6 v10 r69 1 0 n72 0 .nils .nils .nils h70))))))))
noncomputable def buffers_Deque (C : AFun) (n : Nat) (p0 p1 : Int) (p2 : V) (p3 p4 : Int) (p5 : Bool) (p6 : V) (h : Hp) : Option (V × Hp) := buffers_Deque_M C n (buffers_Deque_L0 C n n) p0 p1 p2 p3 p4 p5 p6 h
def buffers_Deque_F0 (t3 : Int) (t6 t17 : V) (t20r t20g t20o : Nat) (t89 t90 : Int) (w14_0 w14_1 w14_2 : V) : Fr := { tmps := [.bot, .bot, .bot, .v (.int .i64 t3), .bot, .bot, .v t6, .bot, .bot, .bot, .bot, .bot, .bot, .bot, .self 14 0, .bot, .bot, .v t17, .bot, .bot, .v (.ptr t20r t20g t20o), .bot, .bot, .bot, .bot, .bot, .bot, .bot, .bot, .bot, .bot, .bot, .bot, .bot, .bot, .bot, .bot, .bot, .bot, .bot, .bot, .bot, .bot, .bot, .bot, .bot, .bot, .bot, .bot, .bot, .bot, .bot, .bot, .bot, .bot, .bot, .bot, .bot, .bot, .bot, .bot, .bot, .bot, .bot, .bot, .bot, .bot, .bot, .bot, .bot, .bot, .bot, .bot, .bot, .bot, .bot, .bot, .bot, .bot, .bot, .bot, .bot, .bot, .bot, .bot, .bot, .bot, .bot, .bot, .v (.int .i64 t89), .v (.int .i64 t90), .bot, .bot, .bot, .bot, .bot, .bot, .bot, .bot, .bot, .bot, .bot, .bot, .bot, .bot, .bot, .bot, .bot, .bot, .bot, .bot, .bot, .bot, .bot, .bot, .bot, .bot, .bot, .bot, .bot, .bot, .bot, .bot, .bot, .bot, .bot, .bot, .bot, .bot, .bot, .bot, .bot, .bot, .bot, .bot, .bot, .bot, .bot, .bot, .bot, .bot, .bot, .bot, .bot, .bot], vars := fun i => match decide (i = 14) with | true => some [w14_0, w14_1, w14_2] | false => (fun _ => none) i }
def buffers_Deque_F1 (t3 : Int) (t17 : V) (t20r t20g t20o : Nat) (t101 : V) (t102 t103 : Int) (w14_0 w14_1 w14_2 : V) : Fr := { tmps := [.bot, .bot, .bot, .v (.int .i64 t3), .bot, .bot, .bot, .bot, .bot, .bot, .bot, .bot, .bot, .bot, .self 14 0, .bot, .bot, .v t17, .bot, .bot, .v (.ptr t20r t20g t20o), .bot, .bot, .bot, .bot, .bot, .bot, .bot, .bot, .bot, .bot, .bot, .bot, .bot, .bot, .bot, .bot, .bot, .bot, .bot, .bot, .bot, .bot, .bot, .bot, .bot, .bot, .bot, .bot, .bot, .bot, .bot, .bot, .bot, .bot, .bot, .bot, .bot, .bot, .bot, .bot, .bot, .bot, .bot, .bot, .bot, .bot, .bot, .bot, .bot, .bot, .bot, .bot, .bot, .bot, .bot, .bot, .bot, .bot, .bot, .bot, .bot, .bot, .bot, .bot, .bot, .bot, .bot, .bot, .bot, .bot, .bot, .bot, .bot, .bot, .bot, .bot, .bot, .bot, .bot, .bot, .v t101, .v (.int .i64 t102), .v (.int .i64 t103), .bot, .bot, .bot, .bot, .bot, .bot, .bot, .bot, .bot, .bot, .bot, .bot, .bot, .bot, .bot, .bot, .bot, .bot, .bot, .bot, .bot, .bot, .bot, .bot, .bot, .bot, .bot, .bot, .bot, .bot, .bot, .bot, .bot, .bot, .bot, .bot, .bot, .bot, .bot, .bot, .bot], vars := fun i => match decide (i = 14) with | true => some [w14_0, w14_1, w14_2] | false => (fun _ => none) i }
def buffers_Deque_F2 (t17 : V) (t20r t20g t20o : Nat) (t128 t129 : Int) (w14_0 w14_1 w14_2 : V) : Fr := { tmps := [.bot, .bot, .bot, .bot, .bot, .bot, .bot, .bot, .bot, .bot, .bot, .bot, .bot, .bot, .self 14 0, .bot, .bot, .v t17, .bot, .bot, .v (.ptr t20r t20g t20o), .bot, .bot, .bot, .bot, .bot, .bot, .bot, .bot, .bot, .bot, .bot, .bot, .bot, .bot, .bot, .bot, .bot, .bot, .bot, .bot, .bot, .bot, .bot, .bot, .bot, .bot, .bot, .bot, .bot, .bot, .bot, .bot, .bot, .bot, .bot, .bot, .bot, .bot, .bot, .bot, .bot, .bot, .bot, .bot, .bot, .bot, .bot, .bot, .bot, .bot, .bot, .bot, .bot, .bot, .bot, .bot, .bot, .bot, .bot, .bot, .bot, .bot, .bot, .bot, .bot, .bot, .bot, .bot, .bot, .bot, .bot, .bot, .bot, .bot, .bot, .bot, .bot, .bot, .bot, .bot, .bot, .bot, .bot, .bot, .bot, .bot, .bot, .bot, .bot, .bot, .bot, .bot, .bot, .bot, .bot, .bot, .bot, .bot, .bot, .bot, .bot, .bot, .bot, .bot, .bot, .bot, .bot, .v (.int .i64 t128), .v (.int .i64 t129), .bot, .bot, .bot, .bot, .bot, .bot, .bot, .bot, .bot, .bot, .bot, .bot, .bot, .bot, .bot], vars := fun i => match decide (i = 14) with | true => some [w14_0, w14_1, w14_2] | false => (fun _ => none) i }
theorem buffers_Deque_eB2 (C : AFun) (n : Nat) (rec2 : Fr → Hp → Option (V × Hp)) (t17 : V) (t20r t20g t20o : Nat) (t128 t129 : Int) (w14_0 w14_1 w14_2 : V) (h : Hp) :
    codeK E C 8 n (cIn (cIn (cSeqR (cSeqL (cSeqR (cSeqR (cSeqR (cSeqR (cSeqR (cSeqR (cSeqR (cSeqR (cSeqR (cSeqR (cSeqR (cSeqR (cOf Try.f8))))))))))))))))) (buffers_Deque_F2 t17 t20r t20g t20o t128 t129 w14_0 w14_1 w14_2) h (kLoop (maskAt E 8 28) rec2 (kBlock 4 (kSeq E C 8 n (cSeqR (cSeqR (cSeqR (cSeqR (cSeqR (cSeqR (cSeqR (cSeqR (cSeqR (cSeqR (cSeqR (cSeqR (cSeqR (cOf Try.f8)))))))))))))) (kTop prog Try.f8)))) = buffers_Deque_B2 C n (fun t17 t20r t20g t20o t128 t129 w14_0 w14_1 w14_2 h => rec2 (buffers_Deque_F2 t17 t20r t20g t20o t128 t129 w14_0 w14_1 w14_2) h) t17 t20r t20g t20o t128 t129 w14_0 w14_1 w14_2 h := by kernel_rfl
theorem buffers_Deque_eL2 (C : AFun) (n : Nat) : ∀ m, (fun t17 t20r t20g t20o t128 t129 w14_0 w14_1 w14_2 h => loopK (codeK E C 8 n (cIn (cIn (cSeqR (cSeqL (cSeqR (cSeqR (cSeqR (cSeqR (cSeqR (cSeqR (cSeqR (cSeqR (cSeqR (cSeqR (cSeqR (cSeqR (cOf Try.f8)))))))))))))))))) (maskAt E 8 28) m (buffers_Deque_F2 t17 t20r t20g t20o t128 t129 w14_0 w14_1 w14_2) h (kBlock 4 (kSeq E C 8 n (cSeqR (cSeqR (cSeqR (cSeqR (cSeqR (cSeqR (cSeqR (cSeqR (cSeqR (cSeqR (cSeqR (cSeqR (cSeqR (cOf Try.f8)))))))))))))) (kTop prog Try.f8)))) = buffers_Deque_L2 C n m
  | 0 => rfl
  | m + 1 => by
    funext t17 t20r t20g t20o t128 t129 w14_0 w14_1 w14_2 h
    have ih := buffers_Deque_eL2 C n m
    have e := buffers_Deque_eB2 C n (fun F h => loopK (codeK E C 8 n (cIn (cIn (cSeqR (cSeqL (cSeqR (cSeqR (cSeqR (cSeqR (cSeqR (cSeqR (cSeqR (cSeqR (cSeqR (cSeqR (cSeqR (cSeqR (cOf Try.f8)))))))))))))))))) (maskAt E 8 28) m F h (kBlock 4 (kSeq E C 8 n (cSeqR (cSeqR (cSeqR (cSeqR (cSeqR (cSeqR (cSeqR (cSeqR (cSeqR (cSeqR (cSeqR (cSeqR (cSeqR (cOf Try.f8)))))))))))))) (kTop prog Try.f8)))) t17 t20r t20g t20o t128 t129 w14_0 w14_1 w14_2 h
    refine (loopK_succ _ _ _ _ _ _).trans (Eq.trans e ?_)
    simp only [ih]
    rfl
theorem buffers_Deque_eB1 (C : AFun) (n : Nat) (rec1 : Fr → Hp → Option (V × Hp)) (t3 : Int) (t17 : V) (t20r t20g t20o : Nat) (t101 : V) (t102 t103 : Int) (w14_0 w14_1 w14_2 : V) (h : Hp) :
    codeK E C 8 n (cIn (cIn (cSeqR (cSeqL (cSeqR (cSeqR (cSeqR (cSeqR (cSeqR (cSeqR (cSeqR (cSeqR (cSeqR (cSeqR (cSeqR (cOf Try.f8)))))))))))))))) (buffers_Deque_F1 t3 t17 t20r t20g t20o t101 t102 t103 w14_0 w14_1 w14_2) h (kLoop (maskAt E 8 20) rec1 (kBlock 2 (kSeq E C 8 n (cSeqR (cSeqR (cSeqR (cSeqR (cSeqR (cSeqR (cSeqR (cSeqR (cSeqR (cSeqR (cSeqR (cSeqR (cOf Try.f8))))))))))))) (kTop prog Try.f8)))) = buffers_Deque_B1 C n (fun t17 t20r t20g t20o t128 t129 w14_0 w14_1 w14_2 h => loopK (codeK E C 8 n (cIn (cIn (cSeqR (cSeqL (cSeqR (cSeqR (cSeqR (cSeqR (cSeqR (cSeqR (cSeqR (cSeqR (cSeqR (cSeqR (cSeqR (cSeqR (cOf Try.f8)))))))))))))))))) (maskAt E 8 28) n (buffers_Deque_F2 t17 t20r t20g t20o t128 t129 w14_0 w14_1 w14_2) h (kBlock 4 (kSeq E C 8 n (cSeqR (cSeqR (cSeqR (cSeqR (cSeqR (cSeqR (cSeqR (cSeqR (cSeqR (cSeqR (cSeqR (cSeqR (cSeqR (cOf Try.f8)))))))))))))) (kTop prog Try.f8)))) (fun t3 t17 t20r t20g t20o t101 t102 t103 w14_0 w14_1 w14_2 h => rec1 (buffers_Deque_F1 t3 t17 t20r t20g t20o t101 t102 t103 w14_0 w14_1 w14_2) h) t3 t17 t20r t20g t20o t101 t102 t103 w14_0 w14_1 w14_2 h := by kernel_rfl
theorem buffers_Deque_eL1 (C : AFun) (n : Nat) : ∀ m, (fun t3 t17 t20r t20g t20o t101 t102 t103 w14_0 w14_1 w14_2 h => loopK (codeK E C 8 n (cIn (cIn (cSeqR (cSeqL (cSeqR (cSeqR (cSeqR (cSeqR (cSeqR (cSeqR (cSeqR (cSeqR (cSeqR (cSeqR (cSeqR (cOf Try.f8))))))))))))))))) (maskAt E 8 20) m (buffers_Deque_F1 t3 t17 t20r t20g t20o t101 t102 t103 w14_0 w14_1 w14_2) h (kBlock 2 (kSeq E C 8 n (cSeqR (cSeqR (cSeqR (cSeqR (cSeqR (cSeqR (cSeqR (cSeqR (cSeqR (cSeqR (cSeqR (cSeqR (cOf Try.f8))))))))))))) (kTop prog Try.f8)))) = buffers_Deque_L1 C n m
  | 0 => rfl
  | m + 1 => by
    funext t3 t17 t20r t20g t20o t101 t102 t103 w14_0 w14_1 w14_2 h
    have ih := buffers_Deque_eL1 C n m
    have e := buffers_Deque_eB1 C n (fun F h => loopK (codeK E C 8 n (cIn (cIn (cSeqR (cSeqL (cSeqR (cSeqR (cSeqR (cSeqR (cSeqR (cSeqR (cSeqR (cSeqR (cSeqR (cSeqR (cSeqR (cOf Try.f8))))))))))))))))) (maskAt E 8 20) m F h (kBlock 2 (kSeq E C 8 n (cSeqR (cSeqR (cSeqR (cSeqR (cSeqR (cSeqR (cSeqR (cSeqR (cSeqR (cSeqR (cSeqR (cSeqR (cOf Try.f8))))))))))))) (kTop prog Try.f8)))) t3 t17 t20r t20g t20o t101 t102 t103 w14_0 w14_1 w14_2 h
    have e2 := buffers_Deque_eL2 C n n
    refine (loopK_succ _ _ _ _ _ _).trans (Eq.trans e ?_)
    rw [e2]
    simp only [ih]
    rfl
theorem buffers_Deque_eB0 (C : AFun) (n : Nat) (rec0 : Fr → Hp → Option (V × Hp)) (t3 : Int) (t6 t17 : V) (t20r t20g t20o : Nat) (t89 t90 : Int) (w14_0 w14_1 w14_2 : V) (h : Hp) :
    codeK E C 8 n (cIn (cIn (cSeqR (cSeqL (cSeqR (cSeqR (cSeqR (cSeqR (cSeqR (cSeqR (cSeqR (cSeqR (cSeqR (cSeqR (cOf Try.f8))))))))))))))) (buffers_Deque_F0 t3 t6 t17 t20r t20g t20o t89 t90 w14_0 w14_1 w14_2) h (kLoop (maskAt E 8 15) rec0 (kBlock 0 (kSeq E C 8 n (cSeqR (cSeqR (cSeqR (cSeqR (cSeqR (cSeqR (cSeqR (cSeqR (cSeqR (cSeqR (cSeqR (cOf Try.f8)))))))))))) (kTop prog Try.f8)))) = buffers_Deque_B0 C n (fun t3 t17 t20r t20g t20o t101 t102 t103 w14_0 w14_1 w14_2 h => loopK (codeK E C 8 n (cIn (cIn (cSeqR (cSeqL (cSeqR (cSeqR (cSeqR (cSeqR (cSeqR (cSeqR (cSeqR (cSeqR (cSeqR (cSeqR (cSeqR (cOf Try.f8))))))))))))))))) (maskAt E 8 20) n (buffers_Deque_F1 t3 t17 t20r t20g t20o t101 t102 t103 w14_0 w14_1 w14_2) h (kBlock 2 (kSeq E C 8 n (cSeqR (cSeqR (cSeqR (cSeqR (cSeqR (cSeqR (cSeqR (cSeqR (cSeqR (cSeqR (cSeqR (cSeqR (cOf Try.f8))))))))))))) (kTop prog Try.f8)))) (fun t3 t6 t17 t20r t20g t20o t89 t90 w14_0 w14_1 w14_2 h => rec0 (buffers_Deque_F0 t3 t6 t17 t20r t20g t20o t89 t90 w14_0 w14_1 w14_2) h) t3 t6 t17 t20r t20g t20o t89 t90 w14_0 w14_1 w14_2 h := by kernel_rfl
theorem buffers_Deque_eL0 (C : AFun) (n : Nat) : ∀ m, (fun t3 t6 t17 t20r t20g t20o t89 t90 w14_0 w14_1 w14_2 h => loopK (codeK E C 8 n (cIn (cIn (cSeqR (cSeqL (cSeqR (cSeqR (cSeqR (cSeqR (cSeqR (cSeqR (cSeqR (cSeqR (cSeqR (cSeqR (cOf Try.f8)))))))))))))))) (maskAt E 8 15) m (buffers_Deque_F0 t3 t6 t17 t20r t20g t20o t89 t90 w14_0 w14_1 w14_2) h (kBlock 0 (kSeq E C 8 n (cSeqR (cSeqR (cSeqR (cSeqR (cSeqR (cSeqR (cSeqR (cSeqR (cSeqR (cSeqR (cSeqR (cOf Try.f8)))))))))))) (kTop prog Try.f8)))) = buffers_Deque_L0 C n m
  | 0 => rfl
  | m + 1 => by
    funext t3 t6 t17 t20r t20g t20o t89 t90 w14_0 w14_1 w14_2 h
    have ih := buffers_Deque_eL0 C n m
    have e := buffers_Deque_eB0 C n (fun F h => loopK (codeK E C 8 n (cIn (cIn (cSeqR (cSeqL (cSeqR (cSeqR (cSeqR (cSeqR (cSeqR (cSeqR (cSeqR (cSeqR (cSeqR (cSeqR (cOf Try.f8)))))))))))))))) (maskAt E 8 15) m F h (kBlock 0 (kSeq E C 8 n (cSeqR (cSeqR (cSeqR (cSeqR (cSeqR (cSeqR (cSeqR (cSeqR (cSeqR (cSeqR (cSeqR (cOf Try.f8)))))))))))) (kTop prog Try.f8)))) t3 t6 t17 t20r t20g t20o t89 t90 w14_0 w14_1 w14_2 h
    have e1 := buffers_Deque_eL1 C n n
    refine (loopK_succ _ _ _ _ _ _).trans (Eq.trans e ?_)
    rw [e1]
    simp only [ih]
    rfl
theorem buffers_Deque_eM (C : AFun) (n : Nat) (p0 p1 : Int) (p2 : V) (p3 p4 : Int) (p5 : Bool) (p6 : V) (h : Hp) : bodyK E C 8 n Try.f8 [.int .i64 p0, .int .i64 p1, p2, .int .i64 p3, .int .i64 p4, .bool p5, p6] h = buffers_Deque_M C n (fun t3 t6 t17 t20r t20g t20o t89 t90 w14_0 w14_1 w14_2 h => loopK (codeK E C 8 n (cIn (cIn (cSeqR (cSeqL (cSeqR (cSeqR (cSeqR (cSeqR (cSeqR (cSeqR (cSeqR (cSeqR (cSeqR (cSeqR (cOf Try.f8)))))))))))))))) (maskAt E 8 15) n (buffers_Deque_F0 t3 t6 t17 t20r t20g t20o t89 t90 w14_0 w14_1 w14_2) h (kBlock 0 (kSeq E C 8 n (cSeqR (cSeqR (cSeqR (cSeqR (cSeqR (cSeqR (cSeqR (cSeqR (cSeqR (cSeqR (cSeqR (cOf Try.f8)))))))))))) (kTop prog Try.f8)))) p0 p1 p2 p3 p4 p5 p6 h := by kernel_rfl
theorem buffers_Deque_eq (n : Nat) (p0 p1 : Int) (p2 : V) (p3 p4 : Int) (p5 : Bool) (p6 : V) (h : Hp) : ev E (n + 1) 8 [.int .i64 p0, .int .i64 p1, p2, .int .i64 p3, .int .i64 p4, .bool p5, p6] h = buffers_Deque (ev E n) n p0 p1 p2 p3 p4 p5 p6 h := by
  rw [ev_body rfl Try.func8, buffers_Deque_eM]
  rw [buffers_Deque_eL0 (ev E n) n n]
  rfl
/-! plunder/buffers.Twice (10) -/
noncomputable def buffers_Twice_M (C : AFun) (n : Nat)  (h : Hp) : Option (V × Hp) :=
newB h { cells := [.int .i64 0, .int .i64 1, .int .i64 0, .int .i64 2, .int .i64 1, .int .i64 0], size := 2, bytes := 16, clean := 0, ro := false } fun r1 h2 =>
newB h2 { cells := [.int .i64 0], size := 1, bytes := 8, clean := 0, ro := false } fun r3 h4 =>
callB (C 29 [.sl r3 1 1 0 1, .int .i64 12] h4) fun v5 h6 =>
newB h6 { cells := [.int .i64 2], size := 1, bytes := 8, clean := 0, ro := false } fun r7 h8 =>
callB (C 29 [.sl r7 1 1 0 1, .int .i64 4] h8) fun v9 h10 =>
newB h10 { cells := [.int .i64 0], size := 1, bytes := 8, clean := 0, ro := false } fun r11 h12 =>
callB (C 29 [.sl r11 1 1 0 1, .int .i64 4] h12) fun v13 h14 =>
newB h14 { cells := [.int .i64 1], size := 1, bytes := 8, clean := 0, ro := false } fun r15 h16 =>
callB (C 29 [.sl r15 1 1 0 1, .int .i64 12] h16) fun v17 h18 =>
newB h18 { cells := [.int .i64 0], size := 1, bytes := 8, clean := 0, ro := false } fun r19 h20 =>
callB (C 29 [.sl r19 1 1 0 1, .int .i64 2] h20) fun v21 h22 =>
fillB (fun i => some (i * 1, 1)) [.nils, .nils, .nils, .nils, .nils] [(0, v5), (1, v9), (2, v13), (3, v17), (4, v21)] fun l23 =>
newB h22 { cells := l23, size := 1, bytes := 24, clean := 0, ro := false } fun r24 h25 =>
callB (C 28 [.sl r24 5 1 0 5] h25) fun v26 h27 =>
some (.tup [.sl r1 3 2 0 3, .int .i64 1, v26], h27)
noncomputable def buffers_Twice (C : AFun) (n : Nat)  (h : Hp) : Option (V × Hp) := buffers_Twice_M C n h
theorem buffers_Twice_eM (C : AFun) (n : Nat)  (h : Hp) : bodyK E C 10 n Try.f10 [] h = buffers_Twice_M C n h := by kernel_rfl
theorem buffers_Twice_eq (n : Nat)  (h : Hp) : ev E (n + 1) 10 [] h = buffers_Twice (ev E n) n h := by
  rw [ev_body rfl Try.func10, buffers_Twice_eM]
  rfl
/-! plunder/plunderlaw21.aloneInts (11) -/
noncomputable def plunderlaw21_aloneInts_B4 (C : AFun) (n : Nat) (rec4 : V → V → Int → Hp → Option (V × Hp)) (t0 t7 : V) (t12 : Int) (h : Hp) : Option (V × Hp) :=
lenS t7 fun n25 =>
cond (decide (t12 < n25)) (
lenS t0 fun n26 =>
cond (decide (t12 < n26)) (
idxS 1 t0 (.int .i64 t12) fun r27 g28 o29 =>
ldH h r27 g28 o29 false 1 fun v30 =>
asInt .i64 v30 fun i31 =>
cond (i31 != (-71)) (
some (.bool false, h)) (
idxS 1 t7 (.int .i64 t12) fun r32 g33 o34 =>
ldH h r32 g33 o34 false 1 fun v35 =>
asInt .i64 v35 fun i36 =>
cond (i36 != (-71)) (
some (.bool false, h)) (
lenS t0 fun n37 =>
cond (decide (t12 ≥ n37)) (
idxS 1 t7 (.int .i64 t12) fun r38 g39 o40 =>
ldH h r38 g39 o40 false 1 fun v41 =>
asInt .i64 v41 fun i42 =>
cond (i42 != (-72)) (
some (.bool false, h)) (
rec4 t0 t7 (wr .i64 (t12 + 1)) h)) (
rec4 t0 t7 (wr .i64 (t12 + 1)) h)))) (
lenS t0 fun n43 =>
cond (decide (t12 ≥ n43)) (
idxS 1 t7 (.int .i64 t12) fun r44 g45 o46 =>
ldH h r44 g45 o46 false 1 fun v47 =>
asInt .i64 v47 fun i48 =>
cond (i48 != (-72)) (
some (.bool false, h)) (
rec4 t0 t7 (wr .i64 (t12 + 1)) h)) (
rec4 t0 t7 (wr .i64 (t12 + 1)) h))) (
some (.bool true, h))
noncomputable def plunderlaw21_aloneInts_L4 (C : AFun) (n : Nat) : Nat → V → V → Int → Hp → Option (V × Hp)
  | 0, _, _, _, _ => none
  | m + 1, t0, t7, t12, h => plunderlaw21_aloneInts_B4 C n (plunderlaw21_aloneInts_L4 C n m) t0 t7 t12 h
noncomputable def plunderlaw21_aloneInts_B3 (C : AFun) (n : Nat) (loop4 : V → V → Int → Hp → Option (V × Hp)) (rec3 : V → V → V → Int → Hp → Option (V × Hp)) (t0 t7 t10 : V) (t11 : Int) (h : Hp) : Option (V × Hp) :=
cond (decide (t11 < 64)) (
appendK 1 8 t10 [.int .i64 (-74)] 1 h fun v23 h24 =>
rec3 t0 t7 v23 (wr .i64 (t11 + 1)) h24) (
loop4 t0 t7 0 h)
noncomputable def plunderlaw21_aloneInts_L3 (C : AFun) (n : Nat) : Nat → V → V → V → Int → Hp → Option (V × Hp)
  | 0, _, _, _, _, _ => none
  | m + 1, t0, t7, t10, t11, h => plunderlaw21_aloneInts_B3 C n (plunderlaw21_aloneInts_L4 C n n) (plunderlaw21_aloneInts_L3 C n m) t0 t7 t10 t11 h
noncomputable def plunderlaw21_aloneInts_B2 (C : AFun) (n : Nat) (loop3 : V → V → V → Int → Hp → Option (V × Hp)) (rec2 : V → V → V → Int → Hp → Option (V × Hp)) (t0 t1 t7 : V) (t9 : Int) (h : Hp) : Option (V × Hp) :=
lenS t1 fun n18 =>
cond (decide (t9 < n18)) (
idxS 1 t1 (.int .i64 t9) fun r19 g20 o21 =>
stH h r19 g20 o21 1 (.int .i64 (-73)) fun h22 =>
rec2 t0 t1 t7 (wr .i64 (t9 + 1)) h22) (
loop3 t0 t7 t1 0 h)
noncomputable def plunderlaw21_aloneInts_L2 (C : AFun) (n : Nat) : Nat → V → V → V → Int → Hp → Option (V × Hp)
  | 0, _, _, _, _, _ => none
  | m + 1, t0, t1, t7, t9, h => plunderlaw21_aloneInts_B2 C n (plunderlaw21_aloneInts_L3 C n n) (plunderlaw21_aloneInts_L2 C n m) t0 t1 t7 t9 h
noncomputable def plunderlaw21_aloneInts_B1 (C : AFun) (n : Nat) (loop2 : V → V → V → Int → Hp → Option (V × Hp)) (rec1 : V → V → V → V → Int → Hp → Option (V × Hp)) (t0 t1 t5 t7 : V) (t8 : Int) (h : Hp) : Option (V × Hp) :=
cond (decide (t8 < 64)) (
appendK 1 8 t7 [.int .i64 (-72)] 1 h fun v13 h14 =>
rec1 t0 t1 t5 v13 (wr .i64 (t8 + 1)) h14) (
callB (C 30 [t1, t5] h) fun v15 h16 =>
asBool v15 fun b17 =>
cond (!b17) (
some (.bool false, h16)) (
loop2 t0 t1 t7 0 h16))
noncomputable def plunderlaw21_aloneInts_L1 (C : AFun) (n : Nat) : Nat → V → V → V → V → Int → Hp → Option (V × Hp)
  | 0, _, _, _, _, _, _ => none
  | m + 1, t0, t1, t5, t7, t8, h => plunderlaw21_aloneInts_B1 C n (plunderlaw21_aloneInts_L2 C n n) (plunderlaw21_aloneInts_L1 C n m) t0 t1 t5 t7 t8 h
noncomputable def plunderlaw21_aloneInts_B0 (C : AFun) (n : Nat) (loop1 : V → V → V → V → Int → Hp → Option (V × Hp)) (rec0 : V → V → V → Int → Hp → Option (V × Hp)) (t0 t1 t5 : V) (t6 : Int) (h : Hp) : Option (V × Hp) :=
lenS t0 fun n8 =>
cond (decide (t6 < n8)) (
idxS 1 t0 (.int .i64 t6) fun r9 g10 o11 =>
stH h r9 g10 o11 1 (.int .i64 (-71)) fun h12 =>
rec0 t0 t1 t5 (wr .i64 (t6 + 1)) h12) (
loop1 t0 t1 t5 t0 0 h)
noncomputable def plunderlaw21_aloneInts_L0 (C : AFun) (n : Nat) : Nat → V → V → V → Int → Hp → Option (V × Hp)
  | 0, _, _, _, _, _ => none
  | m + 1, t0, t1, t5, t6, h => plunderlaw21_aloneInts_B0 C n (plunderlaw21_aloneInts_L1 C n n) (plunderlaw21_aloneInts_L0 C n m) t0 t1 t5 t6 h
noncomputable def plunderlaw21_aloneInts_M (C : AFun) (n : Nat) (loop0 : V → V → V → Int → Hp → Option (V × Hp)) (p0 p1 : V) (h : Hp) : Option (V × Hp) :=
callB (C 30 [p0, p1] h) fun v1 h2 =>
asBool v1 fun b3 =>
cond (!b3) (
some (.bool false, h2)) (
srcS 1 h2 p1 fun l4 n5 =>
appendK 1 8 .nils l4 n5 h2 fun v6 h7 =>
loop0 p0 p1 v6 0 h7)
noncomputable def plunderlaw21_aloneInts (C : AFun) (n : Nat) (p0 p1 : V) (h : Hp) : Option (V × Hp) := plunderlaw21_aloneInts_M C n (plunderlaw21_aloneInts_L0 C n n) p0 p1 h
def plunderlaw21_aloneInts_F0 (t0 t1 t5 : V) (t6 : Int) : Fr := { tmps := [.v t0, .v t1, .bot, .bot, .bot, .v t5, .v (.int .i64 t6), .bot, .bot, .bot, .bot, .bot, .bot, .bot, .bot, .bot, .bot, .bot, .bot, .bot, .bot, .bot, .bot, .bot, .bot, .bot, .bot, .bot, .bot, .bot, .bot, .bot, .bot, .bot, .bot, .bot, .bot, .bot, .bot, .bot, .bot, .bot, .bot, .bot, .bot, .bot, .bot, .bot, .bot, .bot, .bot, .bot, .bot, .bot, .bot, .bot, .bot, .bot, .bot, .bot, .bot, .bot, .bot, .bot, .bot, .bot, .bot, .bot, .bot, .bot, .bot, .bot, .bot, .bot, .bot, .bot, .bot, .bot, .bot, .bot, .bot, .bot, .bot, .bot, .bot, .bot, .bot, .bot, .bot, .bot, .bot, .bot, .bot, .bot, .bot], vars := fun _ => none }
def plunderlaw21_aloneInts_F1 (t0 t1 t5 t7 : V) (t8 : Int) : Fr := { tmps := [.v t0, .v t1, .bot, .bot, .bot, .v t5, .bot, .v t7, .v (.int .i64 t8), .bot, .bot, .bot, .bot, .bot, .bot, .bot, .bot, .bot, .bot, .bot, .bot, .bot, .bot, .bot, .bot, .bot, .bot, .bot, .bot, .bot, .bot, .bot, .bot, .bot, .bot, .bot, .bot, .bot, .bot, .bot, .bot, .bot, .bot, .bot, .bot, .bot, .bot, .bot, .bot, .bot, .bot, .bot, .bot, .bot, .bot, .bot, .bot, .bot, .bot, .bot, .bot, .bot, .bot, .bot, .bot, .bot, .bot, .bot, .bot, .bot, .bot, .bot, .bot, .bot, .bot, .bot, .bot, .bot, .bot, .bot, .bot, .bot, .bot, .bot, .bot, .bot, .bot, .bot, .bot, .bot, .bot, .bot, .bot, .bot, .bot], vars := fun _ => none }
def plunderlaw21_aloneInts_F2 (t0 t1 t7 : V) (t9 : Int) : Fr := { tmps := [.v t0, .v t1, .bot, .bot, .bot, .bot, .bot, .v t7, .bot, .v (.int .i64 t9), .bot, .bot, .bot, .bot, .bot, .bot, .bot, .bot, .bot, .bot, .bot, .bot, .bot, .bot, .bot, .bot, .bot, .bot, .bot, .bot, .bot, .bot, .bot, .bot, .bot, .bot, .bot, .bot, .bot, .bot, .bot, .bot, .bot, .bot, .bot, .bot, .bot, .bot, .bot, .bot, .bot, .bot, .bot, .bot, .bot, .bot, .bot, .bot, .bot, .bot, .bot, .bot, .bot, .bot, .bot, .bot, .bot, .bot, .bot, .bot, .bot, .bot, .bot, .bot, .bot, .bot, .bot, .bot, .bot, .bot, .bot, .bot, .bot, .bot, .bot, .bot, .bot, .bot, .bot, .bot, .bot, .bot, .bot, .bot, .bot], vars := fun _ => none }
def plunderlaw21_aloneInts_F3 (t0 t7 t10 : V) (t11 : Int) : Fr := { tmps := [.v t0, .bot, .bot, .bot, .bot, .bot, .bot, .v t7, .bot, .bot, .v t10, .v (.int .i64 t11), .bot, .bot, .bot, .bot, .bot, .bot, .bot, .bot, .bot, .bot, .bot, .bot, .bot, .bot, .bot, .bot, .bot, .bot, .bot, .bot, .bot, .bot, .bot, .bot, .bot, .bot, .bot, .bot, .bot, .bot, .bot, .bot, .bot, .bot, .bot, .bot, .bot, .bot, .bot, .bot, .bot, .bot, .bot, .bot, .bot, .bot, .bot, .bot, .bot, .bot, .bot, .bot, .bot, .bot, .bot, .bot, .bot, .bot, .bot, .bot, .bot, .bot, .bot, .bot, .bot, .bot, .bot, .bot, .bot, .bot, .bot, .bot, .bot, .bot, .bot, .bot, .bot, .bot, .bot, .bot, .bot, .bot, .bot], vars := fun _ => none }
def plunderlaw21_aloneInts_F4 (t0 t7 : V) (t12 : Int) : Fr := { tmps := [.v t0, .bot, .bot, .bot, .bot, .bot, .bot, .v t7, .bot, .bot, .bot, .bot, .v (.int .i64 t12), .bot, .bot, .bot, .bot, .bot, .bot, .bot, .bot, .bot, .bot, .bot, .bot, .bot, .bot, .bot, .bot, .bot, .bot, .bot, .bot, .bot, .bot, .bot, .bot, .bot, .bot, .bot, .bot, .bot, .bot, .bot, .bot, .bot, .bot, .bot, .bot, .bot, .bot, .bot, .bot, .bot, .bot, .bot, .bot, .bot, .bot, .bot, .bot, .bot, .bot, .bot, .bot, .bot, .bot, .bot, .bot, .bot, .bot, .bot, .bot, .bot, .bot, .bot, .bot, .bot, .bot, .bot, .bot, .bot, .bot, .bot, .bot, .bot, .bot, .bot, .bot, .bot, .bot, .bot, .bot, .bot, .bot], vars := fun _ => none }
theorem plunderlaw21_aloneInts_eB4 (C : AFun) (n : Nat) (rec4 : Fr → Hp → Option (V × Hp)) (t0 t7 : V) (t12 : Int) (h : Hp) :
    codeK E C 11 n (cIn (cIn (cSeqR (cSeqL (cSeqR (cSeqR (cSeqR (cSeqR (cSeqR (cSeqR (cSeqR (cSeqR (cSeqR (cSeqR (cSeqR (cOf Try.f11)))))))))))))))) (plunderlaw21_aloneInts_F4 t0 t7 t12) h (kLoop (maskAt E 11 26) rec4 (kBlock 8 (kSeq E C 11 n (cSeqR (cSeqR (cSeqR (cSeqR (cSeqR (cSeqR (cSeqR (cSeqR (cSeqR (cSeqR (cSeqR (cSeqR (cOf Try.f11))))))))))))) (kTop prog Try.f11)))) = plunderlaw21_aloneInts_B4 C n (fun t0 t7 t12 h => rec4 (plunderlaw21_aloneInts_F4 t0 t7 t12) h) t0 t7 t12 h := by kernel_rfl
theorem plunderlaw21_aloneInts_eL4 (C : AFun) (n : Nat) : ∀ m, (fun t0 t7 t12 h => loopK (codeK E C 11 n (cIn (cIn (cSeqR (cSeqL (cSeqR (cSeqR (cSeqR (cSeqR (cSeqR (cSeqR (cSeqR (cSeqR (cSeqR (cSeqR (cSeqR (cOf Try.f11))))))))))))))))) (maskAt E 11 26) m (plunderlaw21_aloneInts_F4 t0 t7 t12) h (kBlock 8 (kSeq E C 11 n (cSeqR (cSeqR (cSeqR (cSeqR (cSeqR (cSeqR (cSeqR (cSeqR (cSeqR (cSeqR (cSeqR (cSeqR (cOf Try.f11))))))))))))) (kTop prog Try.f11)))) = plunderlaw21_aloneInts_L4 C n m
  | 0 => rfl
  | m + 1 => by
    funext t0 t7 t12 h
    have ih := plunderlaw21_aloneInts_eL4 C n m
    have e := plunderlaw21_aloneInts_eB4 C n (fun F h => loopK (codeK E C 11 n (cIn (cIn (cSeqR (cSeqL (cSeqR (cSeqR (cSeqR (cSeqR (cSeqR (cSeqR (cSeqR (cSeqR (cSeqR (cSeqR (cSeqR (cOf Try.f11))))))))))))))))) (maskAt E 11 26) m F h (kBlock 8 (kSeq E C 11 n (cSeqR (cSeqR (cSeqR (cSeqR (cSeqR (cSeqR (cSeqR (cSeqR (cSeqR (cSeqR (cSeqR (cSeqR (cOf Try.f11))))))))))))) (kTop prog Try.f11)))) t0 t7 t12 h
    refine (loopK_succ _ _ _ _ _ _).trans (Eq.trans e ?_)
    simp only [ih]
    rfl
theorem plunderlaw21_aloneInts_eB3 (C : AFun) (n : Nat) (rec3 : Fr → Hp → Option (V × Hp)) (t0 t7 t10 : V) (t11 : Int) (h : Hp) :
    codeK E C 11 n (cIn (cIn (cSeqR (cSeqL (cSeqR (cSeqR (cSeqR (cSeqR (cSeqR (cSeqR (cSeqR (cSeqR (cSeqR (cSeqR (cOf Try.f11))))))))))))))) (plunderlaw21_aloneInts_F3 t0 t7 t10 t11) h (kLoop (maskAt E 11 22) rec3 (kBlock 6 (kSeq E C 11 n (cSeqR (cSeqR (cSeqR (cSeqR (cSeqR (cSeqR (cSeqR (cSeqR (cSeqR (cSeqR (cSeqR (cOf Try.f11)))))))))))) (kTop prog Try.f11)))) = plunderlaw21_aloneInts_B3 C n (fun t0 t7 t12 h => loopK (codeK E C 11 n (cIn (cIn (cSeqR (cSeqL (cSeqR (cSeqR (cSeqR (cSeqR (cSeqR (cSeqR (cSeqR (cSeqR (cSeqR (cSeqR (cSeqR (cOf Try.f11))))))))))))))))) (maskAt E 11 26) n (plunderlaw21_aloneInts_F4 t0 t7 t12) h (kBlock 8 (kSeq E C 11 n (cSeqR (cSeqR (cSeqR (cSeqR (cSeqR (cSeqR (cSeqR (cSeqR (cSeqR (cSeqR (cSeqR (cSeqR (cOf Try.f11))))))))))))) (kTop prog Try.f11)))) (fun t0 t7 t10 t11 h => rec3 (plunderlaw21_aloneInts_F3 t0 t7 t10 t11) h) t0 t7 t10 t11 h := by kernel_rfl
theorem plunderlaw21_aloneInts_eL3 (C : AFun) (n : Nat) : ∀ m, (fun t0 t7 t10 t11 h => loopK (codeK E C 11 n (cIn (cIn (cSeqR (cSeqL (cSeqR (cSeqR (cSeqR (cSeqR (cSeqR (cSeqR (cSeqR (cSeqR (cSeqR (cSeqR (cOf Try.f11)))))))))))))))) (maskAt E 11 22) m (plunderlaw21_aloneInts_F3 t0 t7 t10 t11) h (kBlock 6 (kSeq E C 11 n (cSeqR (cSeqR (cSeqR (cSeqR (cSeqR (cSeqR (cSeqR (cSeqR (cSeqR (cSeqR (cSeqR (cOf Try.f11)))))))))))) (kTop prog Try.f11)))) = plunderlaw21_aloneInts_L3 C n m
  | 0 => rfl
  | m + 1 => by
    funext t0 t7 t10 t11 h
    have ih := plunderlaw21_aloneInts_eL3 C n m
    have e := plunderlaw21_aloneInts_eB3 C n (fun F h => loopK (codeK E C 11 n (cIn (cIn (cSeqR (cSeqL (cSeqR (cSeqR (cSeqR (cSeqR (cSeqR (cSeqR (cSeqR (cSeqR (cSeqR (cSeqR (cOf Try.f11)))))))))))))))) (maskAt E 11 22) m F h (kBlock 6 (kSeq E C 11 n (cSeqR (cSeqR (cSeqR (cSeqR (cSeqR (cSeqR (cSeqR (cSeqR (cSeqR (cSeqR (cSeqR (cOf Try.f11)))))))))))) (kTop prog Try.f11)))) t0 t7 t10 t11 h
    have e4 := plunderlaw21_aloneInts_eL4 C n n
    refine (loopK_succ _ _ _ _ _ _).trans (Eq.trans e ?_)
    rw [e4]
    simp only [ih]
    rfl
theorem plunderlaw21_aloneInts_eB2 (C : AFun) (n : Nat) (rec2 : Fr → Hp → Option (V × Hp)) (t0 t1 t7 : V) (t9 : Int) (h : Hp) :
    codeK E C 11 n (cIn (cIn (cSeqR (cSeqL (cSeqR (cSeqR (cSeqR (cSeqR (cSeqR (cSeqR (cSeqR (cSeqR (cOf Try.f11))))))))))))) (plunderlaw21_aloneInts_F2 t0 t1 t7 t9) h (kLoop (maskAt E 11 17) rec2 (kBlock 4 (kSeq E C 11 n (cSeqR (cSeqR (cSeqR (cSeqR (cSeqR (cSeqR (cSeqR (cSeqR (cSeqR (cOf Try.f11)))))))))) (kTop prog Try.f11)))) = plunderlaw21_aloneInts_B2 C n (fun t0 t7 t10 t11 h => loopK (codeK E C 11 n (cIn (cIn (cSeqR (cSeqL (cSeqR (cSeqR (cSeqR (cSeqR (cSeqR (cSeqR (cSeqR (cSeqR (cSeqR (cSeqR (cOf Try.f11)))))))))))))))) (maskAt E 11 22) n (plunderlaw21_aloneInts_F3 t0 t7 t10 t11) h (kBlock 6 (kSeq E C 11 n (cSeqR (cSeqR (cSeqR (cSeqR (cSeqR (cSeqR (cSeqR (cSeqR (cSeqR (cSeqR (cSeqR (cOf Try.f11)))))))))))) (kTop prog Try.f11)))) (fun t0 t1 t7 t9 h => rec2 (plunderlaw21_aloneInts_F2 t0 t1 t7 t9) h) t0 t1 t7 t9 h := by kernel_rfl
theorem plunderlaw21_aloneInts_eL2 (C : AFun) (n : Nat) : ∀ m, (fun t0 t1 t7 t9 h => loopK (codeK E C 11 n (cIn (cIn (cSeqR (cSeqL (cSeqR (cSeqR (cSeqR (cSeqR (cSeqR (cSeqR (cSeqR (cSeqR (cOf Try.f11)))))))))))))) (maskAt E 11 17) m (plunderlaw21_aloneInts_F2 t0 t1 t7 t9) h (kBlock 4 (kSeq E C 11 n (cSeqR (cSeqR (cSeqR (cSeqR (cSeqR (cSeqR (cSeqR (cSeqR (cSeqR (cOf Try.f11)))))))))) (kTop prog Try.f11)))) = plunderlaw21_aloneInts_L2 C n m
  | 0 => rfl
  | m + 1 => by
    funext t0 t1 t7 t9 h
    have ih := plunderlaw21_aloneInts_eL2 C n m
    have e := plunderlaw21_aloneInts_eB2 C n (fun F h => loopK (codeK E C 11 n (cIn (cIn (cSeqR (cSeqL (cSeqR (cSeqR (cSeqR (cSeqR (cSeqR (cSeqR (cSeqR (cSeqR (cOf Try.f11)))))))))))))) (maskAt E 11 17) m F h (kBlock 4 (kSeq E C 11 n (cSeqR (cSeqR (cSeqR (cSeqR (cSeqR (cSeqR (cSeqR (cSeqR (cSeqR (cOf Try.f11)))))))))) (kTop prog Try.f11)))) t0 t1 t7 t9 h
    have e3 := plunderlaw21_aloneInts_eL3 C n n
    refine (loopK_succ _ _ _ _ _ _).trans (Eq.trans e ?_)
    rw [e3]
    simp only [ih]
    rfl
theorem plunderlaw21_aloneInts_eB1 (C : AFun) (n : Nat) (rec1 : Fr → Hp → Option (V × Hp)) (t0 t1 t5 t7 : V) (t8 : Int) (h : Hp) :
    codeK E C 11 n (cIn (cIn (cSeqR (cSeqL (cSeqR (cSeqR (cSeqR (cSeqR (cSeqR (cSeqR (cOf Try.f11))))))))))) (plunderlaw21_aloneInts_F1 t0 t1 t5 t7 t8) h (kLoop (maskAt E 11 11) rec1 (kBlock 2 (kSeq E C 11 n (cSeqR (cSeqR (cSeqR (cSeqR (cSeqR (cSeqR (cSeqR (cOf Try.f11)))))))) (kTop prog Try.f11)))) = plunderlaw21_aloneInts_B1 C n (fun t0 t1 t7 t9 h => loopK (codeK E C 11 n (cIn (cIn (cSeqR (cSeqL (cSeqR (cSeqR (cSeqR (cSeqR (cSeqR (cSeqR (cSeqR (cSeqR (cOf Try.f11)))))))))))))) (maskAt E 11 17) n (plunderlaw21_aloneInts_F2 t0 t1 t7 t9) h (kBlock 4 (kSeq E C 11 n (cSeqR (cSeqR (cSeqR (cSeqR (cSeqR (cSeqR (cSeqR (cSeqR (cSeqR (cOf Try.f11)))))))))) (kTop prog Try.f11)))) (fun t0 t1 t5 t7 t8 h => rec1 (plunderlaw21_aloneInts_F1 t0 t1 t5 t7 t8) h) t0 t1 t5 t7 t8 h := by kernel_rfl
theorem plunderlaw21_aloneInts_eL1 (C : AFun) (n : Nat) : ∀ m, (fun t0 t1 t5 t7 t8 h => loopK (codeK E C 11 n (cIn (cIn (cSeqR (cSeqL (cSeqR (cSeqR (cSeqR (cSeqR (cSeqR (cSeqR (cOf Try.f11)))))))))))) (maskAt E 11 11) m (plunderlaw21_aloneInts_F1 t0 t1 t5 t7 t8) h (kBlock 2 (kSeq E C 11 n (cSeqR (cSeqR (cSeqR (cSeqR (cSeqR (cSeqR (cSeqR (cOf Try.f11)))))))) (kTop prog Try.f11)))) = plunderlaw21_aloneInts_L1 C n m
  | 0 => rfl
  | m + 1 => by
    funext t0 t1 t5 t7 t8 h
    have ih := plunderlaw21_aloneInts_eL1 C n m
    have e := plunderlaw21_aloneInts_eB1 C n (fun F h => loopK (codeK E C 11 n (cIn (cIn (cSeqR (cSeqL (cSeqR (cSeqR (cSeqR (cSeqR (cSeqR (cSeqR (cOf Try.f11)))))))))))) (maskAt E 11 11) m F h (kBlock 2 (kSeq E C 11 n (cSeqR (cSeqR (cSeqR (cSeqR (cSeqR (cSeqR (cSeqR (cOf Try.f11)))))))) (kTop prog Try.f11)))) t0 t1 t5 t7 t8 h
    have e2 := plunderlaw21_aloneInts_eL2 C n n
    refine (loopK_succ _ _ _ _ _ _).trans (Eq.trans e ?_)
    rw [e2]
    simp only [ih]
    rfl
theorem plunderlaw21_aloneInts_eB0 (C : AFun) (n : Nat) (rec0 : Fr → Hp → Option (V × Hp)) (t0 t1 t5 : V) (t6 : Int) (h : Hp) :
    codeK E C 11 n (cIn (cIn (cSeqR (cSeqL (cSeqR (cSeqR (cSeqR (cSeqR (cOf Try.f11))))))))) (plunderlaw21_aloneInts_F0 t0 t1 t5 t6) h (kLoop (maskAt E 11 6) rec0 (kBlock 0 (kSeq E C 11 n (cSeqR (cSeqR (cSeqR (cSeqR (cSeqR (cOf Try.f11)))))) (kTop prog Try.f11)))) = plunderlaw21_aloneInts_B0 C n (fun t0 t1 t5 t7 t8 h => loopK (codeK E C 11 n (cIn (cIn (cSeqR (cSeqL (cSeqR (cSeqR (cSeqR (cSeqR (cSeqR (cSeqR (cOf Try.f11)))))))))))) (maskAt E 11 11) n (plunderlaw21_aloneInts_F1 t0 t1 t5 t7 t8) h (kBlock 2 (kSeq E C 11 n (cSeqR (cSeqR (cSeqR (cSeqR (cSeqR (cSeqR (cSeqR (cOf Try.f11)))))))) (kTop prog Try.f11)))) (fun t0 t1 t5 t6 h => rec0 (plunderlaw21_aloneInts_F0 t0 t1 t5 t6) h) t0 t1 t5 t6 h := by kernel_rfl
theorem plunderlaw21_aloneInts_eL0 (C : AFun) (n : Nat) : ∀ m, (fun t0 t1 t5 t6 h => loopK (codeK E C 11 n (cIn (cIn (cSeqR (cSeqL (cSeqR (cSeqR (cSeqR (cSeqR (cOf Try.f11)))))))))) (maskAt E 11 6) m (plunderlaw21_aloneInts_F0 t0 t1 t5 t6) h (kBlock 0 (kSeq E C 11 n (cSeqR (cSeqR (cSeqR (cSeqR (cSeqR (cOf Try.f11)))))) (kTop prog Try.f11)))) = plunderlaw21_aloneInts_L0 C n m
  | 0 => rfl
  | m + 1 => by
    funext t0 t1 t5 t6 h
    have ih := plunderlaw21_aloneInts_eL0 C n m
    have e := plunderlaw21_aloneInts_eB0 C n (fun F h => loopK (codeK E C 11 n (cIn (cIn (cSeqR (cSeqL (cSeqR (cSeqR (cSeqR (cSeqR (cOf Try.f11)))))))))) (maskAt E 11 6) m F h (kBlock 0 (kSeq E C 11 n (cSeqR (cSeqR (cSeqR (cSeqR (cSeqR (cOf Try.f11)))))) (kTop prog Try.f11)))) t0 t1 t5 t6 h
    have e1 := plunderlaw21_aloneInts_eL1 C n n
    refine (loopK_succ _ _ _ _ _ _).trans (Eq.trans e ?_)
    rw [e1]
    simp only [ih]
    rfl
theorem plunderlaw21_aloneInts_eM (C : AFun) (n : Nat) (p0 p1 : V) (h : Hp) : bodyK E C 11 n Try.f11 [p0, p1] h = plunderlaw21_aloneInts_M C n (fun t0 t1 t5 t6 h => loopK (codeK E C 11 n (cIn (cIn (cSeqR (cSeqL (cSeqR (cSeqR (cSeqR (cSeqR (cOf Try.f11)))))))))) (maskAt E 11 6) n (plunderlaw21_aloneInts_F0 t0 t1 t5 t6) h (kBlock 0 (kSeq E C 11 n (cSeqR (cSeqR (cSeqR (cSeqR (cSeqR (cOf Try.f11)))))) (kTop prog Try.f11)))) p0 p1 h := by kernel_rfl
theorem plunderlaw21_aloneInts_eq (n : Nat) (p0 p1 : V) (h : Hp) : ev E (n + 1) 11 [p0, p1] h = plunderlaw21_aloneInts (ev E n) n p0 p1 h := by
  rw [ev_body rfl Try.func11, plunderlaw21_aloneInts_eM]
  rw [plunderlaw21_aloneInts_eL0 (ev E n) n n]
  rfl
/-! plunder/plunderlaw21.double (12) -/
noncomputable def plunderlaw21_double_B1 (C : AFun) (n : Nat) (rec0 : Int → V → V → V → Hp → Option (V × Hp)) (rec1 : Int → Int → V → V → V → Hp → Option (V × Hp)) (t3 t4 : Int) (w1_0 w1_1 w1_2 : V) (h : Hp) : Option (V × Hp) :=
cond (decide (t4 < t3)) (
idxS 7 w1_0 (.int .i64 t3) fun r2 g3 o4 =>
ldH h r2 g3 (o4 + 5) false 1 fun v5 =>
asInt .i64 v5 fun i6 =>
cond (i6 == 4) (
idxS 7 w1_0 (.int .i64 t4) fun r7 g8 o9 =>
ldH h r7 g8 (o9 + 5) false 1 fun v10 =>
asInt .i64 v10 fun i11 =>
cond (i11 == 4) (
idxS 7 w1_0 (.int .i64 t3) fun r12 g13 o14 =>
ldH h r12 g13 (o14 + 6) false 1 fun v15 =>
asInt .i64 v15 fun i16 =>
idxS 7 w1_0 (.int .i64 t4) fun r17 g18 o19 =>
ldH h r17 g18 (o19 + 6) false 1 fun v20 =>
asInt .i64 v20 fun i21 =>
cond (i16 == i21) (
idxS 7 w1_0 (.int .i64 t3) fun r22 g23 o24 =>
ldH h r22 g23 (o24 + 6) false 1 fun v25 =>
asInt .i64 v25 fun i26 =>
some (.int .i64 i26, h)) (
rec1 t3 (wr .i64 (t4 + 1)) w1_0 w1_1 w1_2 h)) (
rec1 t3 (wr .i64 (t4 + 1)) w1_0 w1_1 w1_2 h)) (
rec1 t3 (wr .i64 (t4 + 1)) w1_0 w1_1 w1_2 h)) (
rec0 (wr .i64 (t3 + 1)) w1_0 w1_1 w1_2 h)
noncomputable def plunderlaw21_double_L1 (C : AFun) (n : Nat) (rec0 : Int → V → V → V → Hp → Option (V × Hp)) : Nat → Int → Int → V → V → V → Hp → Option (V × Hp)
  | 0, _, _, _, _, _, _ => none
  | m + 1, t3, t4, w1_0, w1_1, w1_2, h => plunderlaw21_double_B1 C n rec0 (plunderlaw21_double_L1 C n rec0 m) t3 t4 w1_0 w1_1 w1_2 h
noncomputable def plunderlaw21_double_B0 (C : AFun) (n : Nat) (loop1 : Int → Int → V → V → V → Hp → Option (V × Hp)) (rec0 : Int → V → V → V → Hp → Option (V × Hp)) (t3 : Int) (w1_0 w1_1 w1_2 : V) (h : Hp) : Option (V × Hp) :=
lenS w1_0 fun n1 =>
cond (decide (t3 < n1)) (
loop1 t3 0 w1_0 w1_1 w1_2 h) (
some (.int .i64 (-1), h))
noncomputable def plunderlaw21_double_L0 (C : AFun) (n : Nat) : Nat → Int → V → V → V → Hp → Option (V × Hp)
  | 0, _, _, _, _, _ => none
  | m + 1, t3, w1_0, w1_1, w1_2, h => plunderlaw21_double_B0 C n (plunderlaw21_double_L1 C n (plunderlaw21_double_L0 C n m) n) (plunderlaw21_double_L0 C n m) t3 w1_0 w1_1 w1_2 h
noncomputable def plunderlaw21_double_M (C : AFun) (n : Nat) (loop0 : Int → V → V → V → Hp → Option (V × Hp)) (p0_0 p0_1 p0_2 : V) (h : Hp) : Option (V × Hp) :=
loop0 0 p0_0 p0_1 p0_2 h
noncomputable def plunderlaw21_double (C : AFun) (n : Nat) (p0_0 p0_1 p0_2 : V) (h : Hp) : Option (V × Hp) := plunderlaw21_double_M C n (plunderlaw21_double_L0 C n n) p0_0 p0_1 p0_2 h
def plunderlaw21_double_F0 (t3 : Int) (w1_0 w1_1 w1_2 : V) : Fr := { tmps := [.bot, .self 1 0, .bot, .v (.int .i64 t3), .bot, .bot, .bot, .bot, .bot, .bot, .bot, .bot, .bot, .bot, .bot, .bot, .bot, .bot, .bot, .bot, .bot, .bot, .bot, .bot, .bot, .bot, .bot, .bot, .bot, .bot, .bot, .bot, .bot, .bot, .bot, .bot, .bot, .bot, .bot, .bot, .bot, .bot, .bot, .bot, .bot, .bot, .bot, .bot, .bot, .bot, .bot, .bot, .bot, .bot], vars := fun i => match decide (i = 1) with | true => some [w1_0, w1_1, w1_2] | false => (fun _ => none) i }
def plunderlaw21_double_F1 (t3 t4 : Int) (w1_0 w1_1 w1_2 : V) : Fr := { tmps := [.bot, .self 1 0, .bot, .v (.int .i64 t3), .v (.int .i64 t4), .bot, .bot, .bot, .bot, .bot, .bot, .bot, .bot, .bot, .bot, .bot, .bot, .bot, .bot, .bot, .bot, .bot, .bot, .bot, .bot, .bot, .bot, .bot, .bot, .bot, .bot, .bot, .bot, .bot, .bot, .bot, .bot, .bot, .bot, .bot, .bot, .bot, .bot, .bot, .bot, .bot, .bot, .bot, .bot, .bot, .bot, .bot, .bot, .bot], vars := fun i => match decide (i = 1) with | true => some [w1_0, w1_1, w1_2] | false => (fun _ => none) i }
theorem plunderlaw21_double_eB1 (C : AFun) (n : Nat) (rec0 : Fr → Hp → Option (V × Hp)) (rec1 : Fr → Hp → Option (V × Hp)) (t3 t4 : Int) (w1_0 w1_1 w1_2 : V) (h : Hp) :
    codeK E C 12 n (cIn (cIn (cSeqR (cIn (cSeqL (cSeqR (cIn (cIn (cSeqR (cSeqL (cSeqR (cOf Try.f12)))))))))))) (plunderlaw21_double_F1 t3 t4 w1_0 w1_1 w1_2) h (kLoop (maskAt E 12 5) rec1 (kBlock 2 (kBlock 1 (kSeq E C 12 n (cSeqR (cSeqR (cIn (cIn (cSeqR (cSeqL (cSeqR (cOf Try.f12)))))))) (kLoop (maskAt E 12 2) rec0 (kBlock 0 (kSeq E C 12 n (cSeqR (cSeqR (cOf Try.f12))) (kTop prog Try.f12)))))))) = plunderlaw21_double_B1 C n (fun t3 w1_0 w1_1 w1_2 h => rec0 (plunderlaw21_double_F0 t3 w1_0 w1_1 w1_2) h) (fun t3 t4 w1_0 w1_1 w1_2 h => rec1 (plunderlaw21_double_F1 t3 t4 w1_0 w1_1 w1_2) h) t3 t4 w1_0 w1_1 w1_2 h := by kernel_rfl
theorem plunderlaw21_double_eL1 (C : AFun) (n : Nat) (rec0 : Fr → Hp → Option (V × Hp)) : ∀ m, (fun t3 t4 w1_0 w1_1 w1_2 h => loopK (codeK E C 12 n (cIn (cIn (cSeqR (cIn (cSeqL (cSeqR (cIn (cIn (cSeqR (cSeqL (cSeqR (cOf Try.f12))))))))))))) (maskAt E 12 5) m (plunderlaw21_double_F1 t3 t4 w1_0 w1_1 w1_2) h (kBlock 2 (kBlock 1 (kSeq E C 12 n (cSeqR (cSeqR (cIn (cIn (cSeqR (cSeqL (cSeqR (cOf Try.f12)))))))) (kLoop (maskAt E 12 2) rec0 (kBlock 0 (kSeq E C 12 n (cSeqR (cSeqR (cOf Try.f12))) (kTop prog Try.f12)))))))) = plunderlaw21_double_L1 C n (fun t3 w1_0 w1_1 w1_2 h => rec0 (plunderlaw21_double_F0 t3 w1_0 w1_1 w1_2) h) m
  | 0 => rfl
  | m + 1 => by
    funext t3 t4 w1_0 w1_1 w1_2 h
    have ih := plunderlaw21_double_eL1 C n rec0 m
    have e := plunderlaw21_double_eB1 C n rec0 (fun F h => loopK (codeK E C 12 n (cIn (cIn (cSeqR (cIn (cSeqL (cSeqR (cIn (cIn (cSeqR (cSeqL (cSeqR (cOf Try.f12))))))))))))) (maskAt E 12 5) m F h (kBlock 2 (kBlock 1 (kSeq E C 12 n (cSeqR (cSeqR (cIn (cIn (cSeqR (cSeqL (cSeqR (cOf Try.f12)))))))) (kLoop (maskAt E 12 2) rec0 (kBlock 0 (kSeq E C 12 n (cSeqR (cSeqR (cOf Try.f12))) (kTop prog Try.f12)))))))) t3 t4 w1_0 w1_1 w1_2 h
    refine (loopK_succ _ _ _ _ _ _).trans (Eq.trans e ?_)
    simp only [ih]
    rfl
theorem plunderlaw21_double_eB0 (C : AFun) (n : Nat) (rec0 : Fr → Hp → Option (V × Hp)) (t3 : Int) (w1_0 w1_1 w1_2 : V) (h : Hp) :
    codeK E C 12 n (cIn (cIn (cSeqR (cSeqL (cSeqR (cOf Try.f12)))))) (plunderlaw21_double_F0 t3 w1_0 w1_1 w1_2) h (kLoop (maskAt E 12 2) rec0 (kBlock 0 (kSeq E C 12 n (cSeqR (cSeqR (cOf Try.f12))) (kTop prog Try.f12)))) = plunderlaw21_double_B0 C n (fun t3 t4 w1_0 w1_1 w1_2 h => loopK (codeK E C 12 n (cIn (cIn (cSeqR (cIn (cSeqL (cSeqR (cIn (cIn (cSeqR (cSeqL (cSeqR (cOf Try.f12))))))))))))) (maskAt E 12 5) n (plunderlaw21_double_F1 t3 t4 w1_0 w1_1 w1_2) h (kBlock 2 (kBlock 1 (kSeq E C 12 n (cSeqR (cSeqR (cIn (cIn (cSeqR (cSeqL (cSeqR (cOf Try.f12)))))))) (kLoop (maskAt E 12 2) rec0 (kBlock 0 (kSeq E C 12 n (cSeqR (cSeqR (cOf Try.f12))) (kTop prog Try.f12)))))))) (fun t3 w1_0 w1_1 w1_2 h => rec0 (plunderlaw21_double_F0 t3 w1_0 w1_1 w1_2) h) t3 w1_0 w1_1 w1_2 h := by kernel_rfl
theorem plunderlaw21_double_eL0 (C : AFun) (n : Nat) : ∀ m, (fun t3 w1_0 w1_1 w1_2 h => loopK (codeK E C 12 n (cIn (cIn (cSeqR (cSeqL (cSeqR (cOf Try.f12))))))) (maskAt E 12 2) m (plunderlaw21_double_F0 t3 w1_0 w1_1 w1_2) h (kBlock 0 (kSeq E C 12 n (cSeqR (cSeqR (cOf Try.f12))) (kTop prog Try.f12)))) = plunderlaw21_double_L0 C n m
  | 0 => rfl
  | m + 1 => by
    funext t3 w1_0 w1_1 w1_2 h
    have ih := plunderlaw21_double_eL0 C n m
    have e := plunderlaw21_double_eB0 C n (fun F h => loopK (codeK E C 12 n (cIn (cIn (cSeqR (cSeqL (cSeqR (cOf Try.f12))))))) (maskAt E 12 2) m F h (kBlock 0 (kSeq E C 12 n (cSeqR (cSeqR (cOf Try.f12))) (kTop prog Try.f12)))) t3 w1_0 w1_1 w1_2 h
    have e1 := plunderlaw21_double_eL1 C n (fun F h => loopK (codeK E C 12 n (cIn (cIn (cSeqR (cSeqL (cSeqR (cOf Try.f12))))))) (maskAt E 12 2) m F h (kBlock 0 (kSeq E C 12 n (cSeqR (cSeqR (cOf Try.f12))) (kTop prog Try.f12)))) n
    refine (loopK_succ _ _ _ _ _ _).trans (Eq.trans e ?_)
    rw [e1]
    simp only [ih]
    rfl
theorem plunderlaw21_double_eM (C : AFun) (n : Nat) (p0_0 p0_1 p0_2 : V) (h : Hp) : bodyK E C 12 n Try.f12 [.agg [p0_0, p0_1, p0_2]] h = plunderlaw21_double_M C n (fun t3 w1_0 w1_1 w1_2 h => loopK (codeK E C 12 n (cIn (cIn (cSeqR (cSeqL (cSeqR (cOf Try.f12))))))) (maskAt E 12 2) n (plunderlaw21_double_F0 t3 w1_0 w1_1 w1_2) h (kBlock 0 (kSeq E C 12 n (cSeqR (cSeqR (cOf Try.f12))) (kTop prog Try.f12)))) p0_0 p0_1 p0_2 h := by kernel_rfl
theorem plunderlaw21_double_eq (n : Nat) (p0_0 p0_1 p0_2 : V) (h : Hp) : ev E (n + 1) 12 [.agg [p0_0, p0_1, p0_2]] h = plunderlaw21_double (ev E n) n p0_0 p0_1 p0_2 h := by
  rw [ev_body rfl Try.func12, plunderlaw21_double_eM]
  rw [plunderlaw21_double_eL0 (ev E n) n n]
  rfl
/-! plunder/buffers.refused (16) -/
noncomputable def buffers_refused_B0 (C : AFun) (n : Nat) (rec0 : Int → V → Int → Int → Hp → Option (V × Hp)) (t4 : Int) (t36 : V) (t37 t38 : Int) (h : Hp) : Option (V × Hp) :=
cond (decide (t38 < t37)) (
idxS 2 t36 (.int .i64 t38) fun r7 g8 o9 =>
ldH h r7 g8 o9 true 2 fun v10 =>
asAgg v10 fun l11 =>
asCons l11 fun v12 l13 =>
asInt .i64 v12 fun i14 =>
asCons l13 fun v15 l16 =>
asInt .i64 v15 fun i17 =>
asNil l16 (
cond (i14 != 0) (
cond (i14 != 1) (
some (.int .i64 31, h)) (
rec0 t4 t36 t37 (wr .i64 (t38 + 1)) h)) (
rec0 t4 t36 t37 (wr .i64 (t38 + 1)) h))) (
cond (decide (t4 < 1)) (
some (.int .i64 210, h)) (
cond (decide (t4 > 64)) (
some (.int .i64 210, h)) (
some (.int .i64 0, h))))
noncomputable def buffers_refused_L0 (C : AFun) (n : Nat) : Nat → Int → V → Int → Int → Hp → Option (V × Hp)
  | 0, _, _, _, _, _ => none
  | m + 1, t4, t36, t37, t38, h => buffers_refused_B0 C n (buffers_refused_L0 C n m) t4 t36 t37 t38 h
noncomputable def buffers_refused_M (C : AFun) (n : Nat) (loop0 : Int → V → Int → Int → Hp → Option (V × Hp)) (p0 p1 : Int) (p2 : V) (p3 p4 : Int) (p5 : V) (h : Hp) : Option (V × Hp) :=
lenS p2 fun n1 =>
cond (decide (n1 > 4096)) (
some (.int .i64 2, h)) (
lenS p5 fun n2 =>
cond (decide (n2 > 1048576)) (
some (.int .i64 2, h)) (
callB (C 18 [.int .i64 p0, .int .i64 p1] h) fun v3 h4 =>
asInt .i64 v3 fun i5 =>
cond (i5 == 0) (
some (.int .i64 30, h4)) (
cond (decide (p3 < 0)) (
some (.int .i64 3, h4)) (
cond (decide (p3 > 3)) (
some (.int .i64 3, h4)) (
lenS p2 fun n6 =>
loop0 p4 p2 n6 0 h4)))))
noncomputable def buffers_refused (C : AFun) (n : Nat) (p0 p1 : Int) (p2 : V) (p3 p4 : Int) (p5 : V) (h : Hp) : Option (V × Hp) := buffers_refused_M C n (buffers_refused_L0 C n n) p0 p1 p2 p3 p4 p5 h
def buffers_refused_F0 (t4 : Int) (t36 : V) (t37 t38 : Int) : Fr := { tmps := [.bot, .bot, .bot, .bot, .v (.int .i64 t4), .bot, .bot, .bot, .bot, .bot, .bot, .bot, .bot, .bot, .bot, .bot, .bot, .bot, .bot, .bot, .bot, .bot, .bot, .bot, .bot, .bot, .bot, .bot, .bot, .bot, .bot, .bot, .bot, .bot, .bot, .bot, .v t36, .v (.int .i64 t37), .v (.int .i64 t38), .bot, .bot, .bot, .bot, .bot, .bot, .bot, .bot, .bot, .bot, .bot, .bot, .bot, .bot, .bot, .bot, .bot, .bot], vars := fun _ => none }
theorem buffers_refused_eB0 (C : AFun) (n : Nat) (rec0 : Fr → Hp → Option (V × Hp)) (t4 : Int) (t36 : V) (t37 t38 : Int) (h : Hp) :
    codeK E C 16 n (cIn (cIn (cSeqR (cSeqL (cSeqR (cSeqR (cOf Try.f16))))))) (buffers_refused_F0 t4 t36 t37 t38) h (kLoop (maskAt E 16 8) rec0 (kBlock 1 (kSeq E C 16 n (cSeqR (cSeqR (cSeqR (cOf Try.f16)))) (kTop prog Try.f16)))) = buffers_refused_B0 C n (fun t4 t36 t37 t38 h => rec0 (buffers_refused_F0 t4 t36 t37 t38) h) t4 t36 t37 t38 h := by kernel_rfl
theorem buffers_refused_eL0 (C : AFun) (n : Nat) : ∀ m, (fun t4 t36 t37 t38 h => loopK (codeK E C 16 n (cIn (cIn (cSeqR (cSeqL (cSeqR (cSeqR (cOf Try.f16)))))))) (maskAt E 16 8) m (buffers_refused_F0 t4 t36 t37 t38) h (kBlock 1 (kSeq E C 16 n (cSeqR (cSeqR (cSeqR (cOf Try.f16)))) (kTop prog Try.f16)))) = buffers_refused_L0 C n m
  | 0 => rfl
  | m + 1 => by
    funext t4 t36 t37 t38 h
    have ih := buffers_refused_eL0 C n m
    have e := buffers_refused_eB0 C n (fun F h => loopK (codeK E C 16 n (cIn (cIn (cSeqR (cSeqL (cSeqR (cSeqR (cOf Try.f16)))))))) (maskAt E 16 8) m F h (kBlock 1 (kSeq E C 16 n (cSeqR (cSeqR (cSeqR (cOf Try.f16)))) (kTop prog Try.f16)))) t4 t36 t37 t38 h
    refine (loopK_succ _ _ _ _ _ _).trans (Eq.trans e ?_)
    simp only [ih]
    rfl
theorem buffers_refused_eM (C : AFun) (n : Nat) (p0 p1 : Int) (p2 : V) (p3 p4 : Int) (p5 : V) (h : Hp) : bodyK E C 16 n Try.f16 [.int .i64 p0, .int .i64 p1, p2, .int .i64 p3, .int .i64 p4, p5] h = buffers_refused_M C n (fun t4 t36 t37 t38 h => loopK (codeK E C 16 n (cIn (cIn (cSeqR (cSeqL (cSeqR (cSeqR (cOf Try.f16)))))))) (maskAt E 16 8) n (buffers_refused_F0 t4 t36 t37 t38) h (kBlock 1 (kSeq E C 16 n (cSeqR (cSeqR (cSeqR (cOf Try.f16)))) (kTop prog Try.f16)))) p0 p1 p2 p3 p4 p5 h := by kernel_rfl
theorem buffers_refused_eq (n : Nat) (p0 p1 : Int) (p2 : V) (p3 p4 : Int) (p5 : V) (h : Hp) : ev E (n + 1) 16 [.int .i64 p0, .int .i64 p1, p2, .int .i64 p3, .int .i64 p4, p5] h = buffers_refused (ev E n) n p0 p1 p2 p3 p4 p5 h := by
  rw [ev_body rfl Try.func16, buffers_refused_eM]
  rw [buffers_refused_eL0 (ev E n) n n]
  rfl
/-! plunder/buffers.New (17) -/
noncomputable def buffers_New_B0 (C : AFun) (n : Nat) (rec0 : Nat → Nat → Nat → Int → Int → Hp → Option (V × Hp)) (t10r t10g t10o : Nat) (t41 t42 : Int) (h : Hp) : Option (V × Hp) :=
cond (decide (t42 < t41)) (
inA t42 8 (
stH h t10r t10g ((t10o + 11) + Int.toNat t42 * 2) 2 (.agg [.ptr t10r t10g t10o, .int .i64 t42]) fun h14 =>
rec0 t10r t10g t10o t41 (wr .i64 (t42 + 1)) h14)) (
some (.tup [.ptr t10r t10g t10o, .int .i64 0], h))
noncomputable def buffers_New_L0 (C : AFun) (n : Nat) : Nat → Nat → Nat → Nat → Int → Int → Hp → Option (V × Hp)
  | 0, _, _, _, _, _, _ => none
  | m + 1, t10r, t10g, t10o, t41, t42, h => buffers_New_B0 C n (buffers_New_L0 C n m) t10r t10g t10o t41 t42 h
noncomputable def buffers_New_M (C : AFun) (n : Nat) (loop0 : Nat → Nat → Nat → Int → Int → Hp → Option (V × Hp)) (p0 p1 p2 : Int) (h : Hp) : Option (V × Hp) :=
callB (C 32 [.int .i64 p0] h) fun v1 h2 =>
asTup v1 fun l3 =>
asCons l3 fun v4 l5 =>
asCons l5 fun v6 l7 =>
asInt .i64 v6 fun i8 =>
asNil l7 (
cond (i8 != 0) (
some (.tup [.nilp, .int .i64 i8], h2)) (
cond (decide (p1 < 1)) (
some (.tup [.nilp, .int .i64 210], h2)) (
cond (decide (p1 > 8)) (
some (.tup [.nilp, .int .i64 210], h2)) (
cond (decide (p2 < 1)) (
some (.tup [.nilp, .int .i64 210], h2)) (
cond (decide (p2 > 64)) (
some (.tup [.nilp, .int .i64 210], h2)) (
callB (C 19 [v4, .bool true] h2) fun v9 h10 =>
fillB (fun i => [(0, 1), (1, 1), (2, 1), (3, 8), (11, 16)][i]?) [.nilp, .int .i64 0, .int .i64 0, .nils, .nils, .nils, .nils, .nils, .nils, .nils, .nils, .nilp, .int .i64 0, .nilp, .int .i64 0, .nilp, .int .i64 0, .nilp, .int .i64 0, .nilp, .int .i64 0, .nilp, .int .i64 0, .nilp, .int .i64 0, .nilp, .int .i64 0] [(0, v4), (1, .int .i64 p1), (2, .int .i64 p2)] fun l11 =>
okV 27 (.agg l11) (
newB h10 { cells := (V.cells (.agg l11)), size := (V.cells (.agg l11)).length, bytes := 344, clean := 0, ro := false } fun r12 h13 =>
loop0 r12 1 0 p1 0 h13)))))))
noncomputable def buffers_New (C : AFun) (n : Nat) (p0 p1 p2 : Int) (h : Hp) : Option (V × Hp) := buffers_New_M C n (buffers_New_L0 C n n) p0 p1 p2 h
def buffers_New_F0 (t10r t10g t10o : Nat) (t41 t42 : Int) : Fr := { tmps := [.bot, .bot, .bot, .bot, .bot, .bot, .bot, .bot, .bot, .bot, .v (.ptr t10r t10g t10o), .bot, .bot, .bot, .bot, .bot, .bot, .bot, .bot, .bot, .bot, .bot, .bot, .bot, .bot, .bot, .bot, .bot, .bot, .bot, .bot, .bot, .bot, .bot, .bot, .bot, .bot, .bot, .bot, .bot, .bot, .v (.int .i64 t41), .v (.int .i64 t42), .bot, .bot, .bot, .bot, .bot, .bot, .bot, .bot, .bot, .bot, .bot, .bot, .bot], vars := fun _ => none }
theorem buffers_New_eB0 (C : AFun) (n : Nat) (rec0 : Fr → Hp → Option (V × Hp)) (t10r t10g t10o : Nat) (t41 t42 : Int) (h : Hp) :
    codeK E C 17 n (cIn (cIn (cSeqR (cSeqL (cSeqR (cSeqR (cSeqR (cSeqR (cSeqR (cSeqR (cOf Try.f17))))))))))) (buffers_New_F0 t10r t10g t10o t41 t42) h (kLoop (maskAt E 17 9) rec0 (kBlock 0 (kSeq E C 17 n (cSeqR (cSeqR (cSeqR (cSeqR (cSeqR (cSeqR (cSeqR (cOf Try.f17)))))))) (kTop prog Try.f17)))) = buffers_New_B0 C n (fun t10r t10g t10o t41 t42 h => rec0 (buffers_New_F0 t10r t10g t10o t41 t42) h) t10r t10g t10o t41 t42 h := by kernel_rfl
theorem buffers_New_eL0 (C : AFun) (n : Nat) : ∀ m, (fun t10r t10g t10o t41 t42 h => loopK (codeK E C 17 n (cIn (cIn (cSeqR (cSeqL (cSeqR (cSeqR (cSeqR (cSeqR (cSeqR (cSeqR (cOf Try.f17)))))))))))) (maskAt E 17 9) m (buffers_New_F0 t10r t10g t10o t41 t42) h (kBlock 0 (kSeq E C 17 n (cSeqR (cSeqR (cSeqR (cSeqR (cSeqR (cSeqR (cSeqR (cOf Try.f17)))))))) (kTop prog Try.f17)))) = buffers_New_L0 C n m
  | 0 => rfl
  | m + 1 => by
    funext t10r t10g t10o t41 t42 h
    have ih := buffers_New_eL0 C n m
    have e := buffers_New_eB0 C n (fun F h => loopK (codeK E C 17 n (cIn (cIn (cSeqR (cSeqL (cSeqR (cSeqR (cSeqR (cSeqR (cSeqR (cSeqR (cOf Try.f17)))))))))))) (maskAt E 17 9) m F h (kBlock 0 (kSeq E C 17 n (cSeqR (cSeqR (cSeqR (cSeqR (cSeqR (cSeqR (cSeqR (cOf Try.f17)))))))) (kTop prog Try.f17)))) t10r t10g t10o t41 t42 h
    refine (loopK_succ _ _ _ _ _ _).trans (Eq.trans e ?_)
    simp only [ih]
    rfl
theorem buffers_New_eM (C : AFun) (n : Nat) (p0 p1 p2 : Int) (h : Hp) : bodyK E C 17 n Try.f17 [.int .i64 p0, .int .i64 p1, .int .i64 p2] h = buffers_New_M C n (fun t10r t10g t10o t41 t42 h => loopK (codeK E C 17 n (cIn (cIn (cSeqR (cSeqL (cSeqR (cSeqR (cSeqR (cSeqR (cSeqR (cSeqR (cOf Try.f17)))))))))))) (maskAt E 17 9) n (buffers_New_F0 t10r t10g t10o t41 t42) h (kBlock 0 (kSeq E C 17 n (cSeqR (cSeqR (cSeqR (cSeqR (cSeqR (cSeqR (cSeqR (cOf Try.f17)))))))) (kTop prog Try.f17)))) p0 p1 p2 h := by kernel_rfl
theorem buffers_New_eq (n : Nat) (p0 p1 p2 : Int) (h : Hp) : ev E (n + 1) 17 [.int .i64 p0, .int .i64 p1, .int .i64 p2] h = buffers_New (ev E n) n p0 p1 p2 h := by
  rw [ev_body rfl Try.func17, buffers_New_eM]
  rw [buffers_New_eL0 (ev E n) n n]
  rfl
/-! plunder/deque.Cells (18) -/
noncomputable def deque_Cells_B0 (C : AFun) (n : Nat) (rec0 : Int → Int → Int → Hp → Option (V × Hp)) (t1 t5 t6 : Int) (h : Hp) : Option (V × Hp) :=
cond (decide (t6 < t1)) (
rec0 t1 (wr .i64 (t5 + (wr .i64 ((1 : Int) + (if t1 < (wr .i64 ((2 : Int) * t6)) then t1 else (wr .i64 ((2 : Int) * t6))))))) (if t1 < (wr .i64 ((2 : Int) * t6)) then t1 else (wr .i64 ((2 : Int) * t6))) h) (
some (.int .i64 t5, h))
noncomputable def deque_Cells_L0 (C : AFun) (n : Nat) : Nat → Int → Int → Int → Hp → Option (V × Hp)
  | 0, _, _, _, _ => none
  | m + 1, t1, t5, t6, h => deque_Cells_B0 C n (deque_Cells_L0 C n m) t1 t5 t6 h
noncomputable def deque_Cells_M (C : AFun) (n : Nat) (loop0 : Int → Int → Int → Hp → Option (V × Hp)) (p0 p1 : Int) (h : Hp) : Option (V × Hp) :=
callB (C 36 [.int .i64 p0, .int .i64 p1] h) fun v1 h2 =>
asBool v1 fun b3 =>
cond (!b3) (
some (.int .i64 0, h2)) (
loop0 p1 (wr .i64 ((4 : Int) + p0)) p0 h2)
noncomputable def deque_Cells (C : AFun) (n : Nat) (p0 p1 : Int) (h : Hp) : Option (V × Hp) := deque_Cells_M C n (deque_Cells_L0 C n n) p0 p1 h
def deque_Cells_F0 (t1 t5 t6 : Int) : Fr := { tmps := [.bot, .v (.int .i64 t1), .bot, .bot, .bot, .v (.int .i64 t5), .v (.int .i64 t6), .bot, .bot, .bot, .bot, .bot, .bot, .bot, .bot, .bot, .bot, .bot, .bot, .bot, .bot, .bot, .bot, .bot, .bot, .bot], vars := fun _ => none }
theorem deque_Cells_eB0 (C : AFun) (n : Nat) (rec0 : Fr → Hp → Option (V × Hp)) (t1 t5 t6 : Int) (h : Hp) :
    codeK E C 18 n (cIn (cIn (cSeqR (cSeqL (cSeqR (cSeqR (cSeqR (cOf Try.f18)))))))) (deque_Cells_F0 t1 t5 t6) h (kLoop (maskAt E 18 5) rec0 (kBlock 0 (kSeq E C 18 n (cSeqR (cSeqR (cSeqR (cSeqR (cOf Try.f18))))) (kTop prog Try.f18)))) = deque_Cells_B0 C n (fun t1 t5 t6 h => rec0 (deque_Cells_F0 t1 t5 t6) h) t1 t5 t6 h := by kernel_rfl
theorem deque_Cells_eL0 (C : AFun) (n : Nat) : ∀ m, (fun t1 t5 t6 h => loopK (codeK E C 18 n (cIn (cIn (cSeqR (cSeqL (cSeqR (cSeqR (cSeqR (cOf Try.f18))))))))) (maskAt E 18 5) m (deque_Cells_F0 t1 t5 t6) h (kBlock 0 (kSeq E C 18 n (cSeqR (cSeqR (cSeqR (cSeqR (cOf Try.f18))))) (kTop prog Try.f18)))) = deque_Cells_L0 C n m
  | 0 => rfl
  | m + 1 => by
    funext t1 t5 t6 h
    have ih := deque_Cells_eL0 C n m
    have e := deque_Cells_eB0 C n (fun F h => loopK (codeK E C 18 n (cIn (cIn (cSeqR (cSeqL (cSeqR (cSeqR (cSeqR (cOf Try.f18))))))))) (maskAt E 18 5) m F h (kBlock 0 (kSeq E C 18 n (cSeqR (cSeqR (cSeqR (cSeqR (cOf Try.f18))))) (kTop prog Try.f18)))) t1 t5 t6 h
    refine (loopK_succ _ _ _ _ _ _).trans (Eq.trans e ?_)
    simp only [ih]
    rfl
theorem deque_Cells_eM (C : AFun) (n : Nat) (p0 p1 : Int) (h : Hp) : bodyK E C 18 n Try.f18 [.int .i64 p0, .int .i64 p1] h = deque_Cells_M C n (fun t1 t5 t6 h => loopK (codeK E C 18 n (cIn (cIn (cSeqR (cSeqL (cSeqR (cSeqR (cSeqR (cOf Try.f18))))))))) (maskAt E 18 5) n (deque_Cells_F0 t1 t5 t6) h (kBlock 0 (kSeq E C 18 n (cSeqR (cSeqR (cSeqR (cSeqR (cOf Try.f18))))) (kTop prog Try.f18)))) p0 p1 h := by kernel_rfl
theorem deque_Cells_eq (n : Nat) (p0 p1 : Int) (h : Hp) : ev E (n + 1) 18 [.int .i64 p0, .int .i64 p1] h = deque_Cells (ev E n) n p0 p1 h := by
  rw [ev_body rfl Try.func18, deque_Cells_eM]
  rw [deque_Cells_eL0 (ev E n) n n]
  rfl
/-! (*plunder/cells.Arena).Watch (19) -/
noncomputable def cells_Arena_Watch_M (C : AFun) (n : Nat) (p0r p0g p0o : Nat) (p1 : Bool) (h : Hp) : Option (V × Hp) :=
stH h p0r p0g (p0o + 5) 1 (.bool p1) fun h1 =>
some (.tup [], h1)
noncomputable def cells_Arena_Watch (C : AFun) (n : Nat) (p0r p0g p0o : Nat) (p1 : Bool) (h : Hp) : Option (V × Hp) := cells_Arena_Watch_M C n p0r p0g p0o p1 h
theorem cells_Arena_Watch_eM (C : AFun) (n : Nat) (p0r p0g p0o : Nat) (p1 : Bool) (h : Hp) : bodyK E C 19 n Try.f19 [.ptr p0r p0g p0o, .bool p1] h = cells_Arena_Watch_M C n p0r p0g p0o p1 h := by kernel_rfl
theorem cells_Arena_Watch_eq (n : Nat) (p0r p0g p0o : Nat) (p1 : Bool) (h : Hp) : ev E (n + 1) 19 [.ptr p0r p0g p0o, .bool p1] h = cells_Arena_Watch (ev E n) n p0r p0g p0o p1 h := by
  rw [ev_body rfl Try.func19, cells_Arena_Watch_eM]
  rfl
/-! plunder/deque.New (20) -/
noncomputable def deque_New_M (C : AFun) (n : Nat) (p0 : V) (p1 p2 : Int) (h : Hp) : Option (V × Hp) :=
binK prog .eql 102 true p0 .niliface fun v1 =>
asBool v1 fun b2 =>
cond b2 (
some (.tup [.agg [.int .i64 0, .int .i64 0], .int .i64 1], h)) (
callB (C 36 [.int .i64 p1, .int .i64 p2] h) fun v3 h4 =>
asBool v3 fun b5 =>
cond (!b5) (
some (.tup [.agg [.int .i64 0, .int .i64 0], .int .i64 30], h4)) (
invB prog C p0 "Reserve" [.int .i64 (wr .i64 ((4 : Int) + p1))] h4 fun v6 h7 =>
asTup v6 fun l8 =>
asCons l8 fun v9 l10 =>
asInt .i64 v9 fun i11 =>
asCons l10 fun v12 l13 =>
asInt .i64 v12 fun i14 =>
asNil l13 (
cond (i14 != 0) (
some (.tup [.agg [.int .i64 0, .int .i64 0], .int .i64 i14], h7)) (
invB prog C p0 "Store" [.int .i64 (wr .i64 (i11 + 2)), .int .i64 (wr .i64 (i11 + 3))] h7 fun v15 h16 =>
asInt .i64 v15 fun i17 =>
cond (i17 != 0) (
some (.tup [.agg [.int .i64 0, .int .i64 0], .int .i64 i17], h16)) (
invB prog C p0 "Store" [.int .i64 (wr .i64 (i11 + 3)), .int .i64 p1] h16 fun v18 h19 =>
asInt .i64 v18 fun i20 =>
cond (i20 != 0) (
some (.tup [.agg [.int .i64 0, .int .i64 0], .int .i64 i20], h19)) (
some (.tup [.agg [.int .i64 i11, .int .i64 p2], .int .i64 0], h19)))))))
noncomputable def deque_New (C : AFun) (n : Nat) (p0 : V) (p1 p2 : Int) (h : Hp) : Option (V × Hp) := deque_New_M C n p0 p1 p2 h
theorem deque_New_eM (C : AFun) (n : Nat) (p0 : V) (p1 p2 : Int) (h : Hp) : bodyK E C 20 n Try.f20 [p0, .int .i64 p1, .int .i64 p2] h = deque_New_M C n p0 p1 p2 h := by kernel_rfl
theorem deque_New_eq (n : Nat) (p0 : V) (p1 p2 : Int) (h : Hp) : ev E (n + 1) 20 [p0, .int .i64 p1, .int .i64 p2] h = deque_New (ev E n) n p0 p1 p2 h := by
  rw [ev_body rfl Try.func20, deque_New_eM]
  rfl
/-! (*plunder/buffers.Memory).View (21) -/
noncomputable def buffers_Memory_View_M (C : AFun) (n : Nat) (p0r p0g p0o : Nat) (p1 : Int) (h : Hp) : Option (V × Hp) :=
callB (C 37 [.ptr p0r p0g p0o, .int .i64 p1] h) fun v1 h2 =>
asBool v1 fun b3 =>
cond (!b3) (
some (.nilp, h2)) (
inA p1 8 (
some (.ptr p0r p0g ((p0o + 11) + Int.toNat p1 * 2), h2)))
noncomputable def buffers_Memory_View (C : AFun) (n : Nat) (p0r p0g p0o : Nat) (p1 : Int) (h : Hp) : Option (V × Hp) := buffers_Memory_View_M C n p0r p0g p0o p1 h
theorem buffers_Memory_View_eM (C : AFun) (n : Nat) (p0r p0g p0o : Nat) (p1 : Int) (h : Hp) : bodyK E C 21 n Try.f21 [.ptr p0r p0g p0o, .int .i64 p1] h = buffers_Memory_View_M C n p0r p0g p0o p1 h := by kernel_rfl
theorem buffers_Memory_View_eq (n : Nat) (p0r p0g p0o : Nat) (p1 : Int) (h : Hp) : ev E (n + 1) 21 [.ptr p0r p0g p0o, .int .i64 p1] h = buffers_Memory_View (ev E n) n p0r p0g p0o p1 h := by
  rw [ev_body rfl Try.func21, buffers_Memory_View_eM]
  rfl
/-! (*plunder/buffers.Memory).drain (22) -/
noncomputable def buffers_Memory_drain_B0 (C : AFun) (n : Nat) (rec0 : Nat → Nat → Nat → Int → Hp → Option (V × Hp)) (t0r t0g t0o : Nat) (t1 : Int) (h : Hp) : Option (V × Hp) :=
callB (C 24 [.ptr t0r t0g t0o, .int .i64 t1] h) fun v1 h2 =>
asBool v1 fun b3 =>
cond b3 (
rec0 t0r t0g t0o t1 h2) (
some (.tup [], h2))
noncomputable def buffers_Memory_drain_L0 (C : AFun) (n : Nat) : Nat → Nat → Nat → Nat → Int → Hp → Option (V × Hp)
  | 0, _, _, _, _, _ => none
  | m + 1, t0r, t0g, t0o, t1, h => buffers_Memory_drain_B0 C n (buffers_Memory_drain_L0 C n m) t0r t0g t0o t1 h
noncomputable def buffers_Memory_drain_M (C : AFun) (n : Nat) (loop0 : Nat → Nat → Nat → Int → Hp → Option (V × Hp)) (p0r p0g p0o : Nat) (p1 : Int) (h : Hp) : Option (V × Hp) :=
loop0 p0r p0g p0o p1 h
noncomputable def buffers_Memory_drain (C : AFun) (n : Nat) (p0r p0g p0o : Nat) (p1 : Int) (h : Hp) : Option (V × Hp) := buffers_Memory_drain_M C n (buffers_Memory_drain_L0 C n n) p0r p0g p0o p1 h
def buffers_Memory_drain_F0 (t0r t0g t0o : Nat) (t1 : Int) : Fr := { tmps := [.v (.ptr t0r t0g t0o), .v (.int .i64 t1), .bot, .bot, .bot, .bot, .bot], vars := fun _ => none }
theorem buffers_Memory_drain_eB0 (C : AFun) (n : Nat) (rec0 : Fr → Hp → Option (V × Hp)) (t0r t0g t0o : Nat) (t1 : Int) (h : Hp) :
    codeK E C 22 n (cIn (cIn (cOf Try.f22))) (buffers_Memory_drain_F0 t0r t0g t0o t1) h (kLoop (maskAt E 22 0) rec0 (kBlock 0 (kTop prog Try.f22))) = buffers_Memory_drain_B0 C n (fun t0r t0g t0o t1 h => rec0 (buffers_Memory_drain_F0 t0r t0g t0o t1) h) t0r t0g t0o t1 h := by kernel_rfl
theorem buffers_Memory_drain_eL0 (C : AFun) (n : Nat) : ∀ m, (fun t0r t0g t0o t1 h => loopK (codeK E C 22 n (cIn (cIn (cOf Try.f22)))) (maskAt E 22 0) m (buffers_Memory_drain_F0 t0r t0g t0o t1) h (kBlock 0 (kTop prog Try.f22))) = buffers_Memory_drain_L0 C n m
  | 0 => rfl
  | m + 1 => by
    funext t0r t0g t0o t1 h
    have ih := buffers_Memory_drain_eL0 C n m
    have e := buffers_Memory_drain_eB0 C n (fun F h => loopK (codeK E C 22 n (cIn (cIn (cOf Try.f22)))) (maskAt E 22 0) m F h (kBlock 0 (kTop prog Try.f22))) t0r t0g t0o t1 h
    refine (loopK_succ _ _ _ _ _ _).trans (Eq.trans e ?_)
    simp only [ih]
    rfl
theorem buffers_Memory_drain_eM (C : AFun) (n : Nat) (p0r p0g p0o : Nat) (p1 : Int) (h : Hp) : bodyK E C 22 n Try.f22 [.ptr p0r p0g p0o, .int .i64 p1] h = buffers_Memory_drain_M C n (fun t0r t0g t0o t1 h => loopK (codeK E C 22 n (cIn (cIn (cOf Try.f22)))) (maskAt E 22 0) n (buffers_Memory_drain_F0 t0r t0g t0o t1) h (kBlock 0 (kTop prog Try.f22))) p0r p0g p0o p1 h := by kernel_rfl
theorem buffers_Memory_drain_eq (n : Nat) (p0r p0g p0o : Nat) (p1 : Int) (h : Hp) : ev E (n + 1) 22 [.ptr p0r p0g p0o, .int .i64 p1] h = buffers_Memory_drain (ev E n) n p0r p0g p0o p1 h := by
  rw [ev_body rfl Try.func22, buffers_Memory_drain_eM]
  rw [buffers_Memory_drain_eL0 (ev E n) n n]
  rfl
/-! plunder/ops.Mod (23) -/
noncomputable def ops_Mod_M (C : AFun) (n : Nat) (p0 p1 : Int) (h : Hp) : Option (V × Hp) :=
cond (decide (p1 < 1)) (
some (.int .i64 0, h)) (
ifI (p1 = 0) (
cond (decide ((Int.tmod p0 p1) < 0)) (
some (.int .i64 (wr .i64 ((Int.tmod p0 p1) + p1)), h)) (
some (.int .i64 (Int.tmod p0 p1), h))))
noncomputable def ops_Mod (C : AFun) (n : Nat) (p0 p1 : Int) (h : Hp) : Option (V × Hp) := ops_Mod_M C n p0 p1 h
theorem ops_Mod_eM (C : AFun) (n : Nat) (p0 p1 : Int) (h : Hp) : bodyK E C 23 n Try.f23 [.int .i64 p0, .int .i64 p1] h = ops_Mod_M C n p0 p1 h := by kernel_rfl
theorem ops_Mod_eq (n : Nat) (p0 p1 : Int) (h : Hp) : ev E (n + 1) 23 [.int .i64 p0, .int .i64 p1] h = ops_Mod (ev E n) n p0 p1 h := by
  rw [ev_body rfl Try.func23, ops_Mod_eM]
  rfl
/-! (*plunder/buffers.Memory).Flush (24) -/
noncomputable def buffers_Memory_Flush_M (C : AFun) (n : Nat) (p0r p0g p0o : Nat) (p1 : Int) (h : Hp) : Option (V × Hp) :=
callB (C 37 [.ptr p0r p0g p0o, .int .i64 p1] h) fun v1 h2 =>
asBool v1 fun b3 =>
cond (!b3) (
some (.bool false, h2)) (
inA p1 8 (
ldH h2 p0r p0g ((p0o + 3) + Int.toNat p1 * 1) false 1 fun v4 =>
lenS v4 fun n5 =>
cond (n5 == 0) (
some (.bool false, h2)) (
inA p1 8 (
ldH h2 p0r p0g ((p0o + 3) + Int.toNat p1 * 1) false 1 fun v6 =>
idxS 2 v6 (.int .i64 0) fun r7 g8 o9 =>
ldH h2 r7 g8 o9 true 2 fun v10 =>
asAgg v10 fun l11 =>
asCons l11 fun v12 l13 =>
asInt .i64 v12 fun i14 =>
asCons l13 fun v15 l16 =>
asInt .i64 v15 fun i17 =>
asNil l16 (
inA p1 8 (
ldH h2 p0r p0g ((p0o + 3) + Int.toNat p1 * 1) false 1 fun v18 =>
slcS 2 v18 (some (.v (.int .i64 1))) none fun v19 =>
inA p1 8 (
stH h2 p0r p0g ((p0o + 3) + Int.toNat p1 * 1) 1 v19 fun h20 =>
ldH h20 p0r p0g (p0o + 0) false 1 fun v21 =>
callB (C 38 [v21, .int .i64 p1] h20) fun v22 h23 =>
ldH h23 p0r p0g (p0o + 0) false 1 fun v24 =>
callB (C 39 [v24, .int .i64 i14, .int .i64 i17] h23) fun v25 h26 =>
asInt .i64 v25 fun i27 =>
some (.bool true, h26))))))))
noncomputable def buffers_Memory_Flush (C : AFun) (n : Nat) (p0r p0g p0o : Nat) (p1 : Int) (h : Hp) : Option (V × Hp) := buffers_Memory_Flush_M C n p0r p0g p0o p1 h
theorem buffers_Memory_Flush_eM (C : AFun) (n : Nat) (p0r p0g p0o : Nat) (p1 : Int) (h : Hp) : bodyK E C 24 n Try.f24 [.ptr p0r p0g p0o, .int .i64 p1] h = buffers_Memory_Flush_M C n p0r p0g p0o p1 h := by kernel_rfl
theorem buffers_Memory_Flush_eq (n : Nat) (p0r p0g p0o : Nat) (p1 : Int) (h : Hp) : ev E (n + 1) 24 [.ptr p0r p0g p0o, .int .i64 p1] h = buffers_Memory_Flush (ev E n) n p0r p0g p0o p1 h := by
  rw [ev_body rfl Try.func24, buffers_Memory_Flush_eM]
  rfl
/-! (*plunder/buffers.game).step (25) -/
noncomputable def buffers_game_step_M (C : AFun) (n : Nat) (p0r p0g p0o : Nat) (p1 p2 : Int) (h : Hp) : Option (V × Hp) :=
ldH h p0r p0g (p0o + 5) false 1 fun v1 =>
idxS 17 v1 (.int .i64 p2) fun r2 g3 o4 =>
ldH h r2 g3 (o4 + 16) false 1 fun v5 =>
asInt .i64 v5 fun i6 =>
cond (decide (i6 < 0)) (
callB (C 40 [.ptr p0r p0g p0o, .int .i64 p1, .int .i64 p2] h) fun v7 h8 =>
asBool v7 fun b9 =>
cond (!b9) (
some (.tup [], h8)) (
ldH h8 p0r p0g (p0o + 5) false 1 fun v10 =>
idxS 17 v10 (.int .i64 p2) fun r11 g12 o13 =>
ldH h8 r11 g12 (o13 + 0) true 16 fun v14 =>
asAgg v14 fun l15 =>
asCons l15 fun v16 l17 =>
asInt .i64 v16 fun i18 =>
asCons l17 fun v19 l20 =>
asInt .i64 v19 fun i21 =>
asCons l20 fun v22 l23 =>
asInt .i64 v22 fun i24 =>
asCons l23 fun v25 l26 =>
asInt .i64 v25 fun i27 =>
asCons l26 fun v28 l29 =>
asInt .i64 v28 fun i30 =>
asCons l29 fun v31 l32 =>
asInt .i64 v31 fun i33 =>
asCons l32 fun v34 l35 =>
asInt .i64 v34 fun i36 =>
asCons l35 fun v37 l38 =>
asInt .i64 v37 fun i39 =>
asCons l38 fun v40 l41 =>
asInt .i64 v40 fun i42 =>
asCons l41 fun v43 l44 =>
asInt .i64 v43 fun i45 =>
asCons l44 fun v46 l47 =>
asInt .i64 v46 fun i48 =>
asCons l47 fun v49 l50 =>
asInt .i64 v49 fun i51 =>
asCons l50 fun v52 l53 =>
asInt .i64 v52 fun i54 =>
asCons l53 fun v55 l56 =>
asBool v55 fun b57 =>
asCons l56 fun v58 l59 =>
asInt .i64 v58 fun i60 =>
asCons l59 fun v61 l62 =>
asInt .i64 v61 fun i63 =>
asNil l62 (
callB (C 42 [.ptr p0r p0g p0o, .int .i64 p2] h8) fun v64 h65 =>
ldH h65 r11 g12 (o13 + 0) true 16 fun v66 =>
asAgg v66 fun l67 =>
asCons l67 fun v68 l69 =>
asInt .i64 v68 fun i70 =>
asCons l69 fun v71 l72 =>
asInt .i64 v71 fun i73 =>
asCons l72 fun v74 l75 =>
asInt .i64 v74 fun i76 =>
asCons l75 fun v77 l78 =>
asInt .i64 v77 fun i79 =>
asCons l78 fun v80 l81 =>
asInt .i64 v80 fun i82 =>
asCons l81 fun v83 l84 =>
asInt .i64 v83 fun i85 =>
asCons l84 fun v86 l87 =>
asInt .i64 v86 fun i88 =>
asCons l87 fun v89 l90 =>
asInt .i64 v89 fun i91 =>
asCons l90 fun v92 l93 =>
asInt .i64 v92 fun i94 =>
asCons l93 fun v95 l96 =>
asInt .i64 v95 fun i97 =>
asCons l96 fun v98 l99 =>
asInt .i64 v98 fun i100 =>
asCons l99 fun v101 l102 =>
asInt .i64 v101 fun i103 =>
asCons l102 fun v104 l105 =>
asInt .i64 v104 fun i106 =>
asCons l105 fun v107 l108 =>
asBool v107 fun b109 =>
asCons l108 fun v110 l111 =>
asInt .i64 v110 fun i112 =>
asCons l111 fun v113 l114 =>
asInt .i64 v113 fun i115 =>
asNil l114 (
sameV (.agg [.int .i64 i70, .int .i64 i73, .int .i64 i76, .int .i64 i79, .int .i64 i82, .int .i64 i85, .int .i64 i88, .int .i64 i91, .int .i64 i94, .int .i64 i97, .int .i64 i100, .int .i64 i103, .int .i64 i106, .bool b109, .int .i64 i112, .int .i64 i115]) (.agg [.int .i64 i18, .int .i64 i21, .int .i64 i24, .int .i64 i27, .int .i64 i30, .int .i64 i33, .int .i64 i36, .int .i64 i39, .int .i64 i42, .int .i64 i45, .int .i64 i48, .int .i64 i51, .int .i64 i54, .bool b57, .int .i64 i60, .int .i64 i63]) (
callB (C 41 [v64, .agg [.int .i64 i18, .int .i64 i21, .int .i64 i24, .int .i64 i27, .int .i64 i30, .int .i64 i33, .int .i64 i36, .int .i64 i39, .int .i64 i42, .int .i64 i45, .int .i64 i48, .int .i64 i51, .int .i64 i54, .bool b57, .int .i64 i60, .int .i64 i63]] h65) fun v116 h117 =>
asAgg v116 fun l118 =>
asCons l118 fun v119 l120 =>
asInt .i64 v119 fun i121 =>
asCons l120 fun v122 l123 =>
asInt .i64 v122 fun i124 =>
asCons l123 fun v125 l126 =>
asInt .i64 v125 fun i127 =>
asCons l126 fun v128 l129 =>
asInt .i64 v128 fun i130 =>
asCons l129 fun v131 l132 =>
asInt .i64 v131 fun i133 =>
asCons l132 fun v134 l135 =>
asInt .i64 v134 fun i136 =>
asCons l135 fun v137 l138 =>
asInt .i64 v137 fun i139 =>
asCons l138 fun v140 l141 =>
asInt .i64 v140 fun i142 =>
asCons l141 fun v143 l144 =>
asInt .i64 v143 fun i145 =>
asCons l144 fun v146 l147 =>
asInt .i64 v146 fun i148 =>
asCons l147 fun v149 l150 =>
asInt .i64 v149 fun i151 =>
asCons l150 fun v152 l153 =>
asInt .i64 v152 fun i154 =>
asCons l153 fun v155 l156 =>
asInt .i64 v155 fun i157 =>
asCons l156 fun v158 l159 =>
asBool v158 fun b160 =>
asCons l159 fun v161 l162 =>
asInt .i64 v161 fun i163 =>
asCons l162 fun v164 l165 =>
asInt .i64 v164 fun i166 =>
asNil l165 (
stH h117 r11 g12 (o13 + 0) 16 (.agg [.int .i64 i121, .int .i64 i124, .int .i64 i127, .int .i64 i130, .int .i64 i133, .int .i64 i136, .int .i64 i139, .int .i64 i142, .int .i64 i145, .int .i64 i148, .int .i64 i151, .int .i64 i154, .int .i64 i157, .bool b160, .int .i64 i163, .int .i64 i166]) fun h167 =>
ldH h167 r11 g12 (o13 + 0) true 16 fun v168 =>
asAgg v168 fun l169 =>
asCons l169 fun v170 l171 =>
asInt .i64 v170 fun i172 =>
asCons l171 fun v173 l174 =>
asInt .i64 v173 fun i175 =>
asCons l174 fun v176 l177 =>
asInt .i64 v176 fun i178 =>
asCons l177 fun v179 l180 =>
asInt .i64 v179 fun i181 =>
asCons l180 fun v182 l183 =>
asInt .i64 v182 fun i184 =>
asCons l183 fun v185 l186 =>
asInt .i64 v185 fun i187 =>
asCons l186 fun v188 l189 =>
asInt .i64 v188 fun i190 =>
asCons l189 fun v191 l192 =>
asInt .i64 v191 fun i193 =>
asCons l192 fun v194 l195 =>
asInt .i64 v194 fun i196 =>
asCons l195 fun v197 l198 =>
asInt .i64 v197 fun i199 =>
asCons l198 fun v200 l201 =>
asInt .i64 v200 fun i202 =>
asCons l201 fun v203 l204 =>
asInt .i64 v203 fun i205 =>
asCons l204 fun v206 l207 =>
asInt .i64 v206 fun i208 =>
asCons l207 fun v209 l210 =>
asBool v209 fun b211 =>
asCons l210 fun v212 l213 =>
asInt .i64 v212 fun i214 =>
asCons l213 fun v215 l216 =>
asInt .i64 v215 fun i217 =>
asNil l216 (
callB (C 43 [.agg [.int .i64 i172, .int .i64 i175, .int .i64 i178, .int .i64 i181, .int .i64 i184, .int .i64 i187, .int .i64 i190, .int .i64 i193, .int .i64 i196, .int .i64 i199, .int .i64 i202, .int .i64 i205, .int .i64 i208, .bool b211, .int .i64 i214, .int .i64 i217]] h167) fun v218 h219 =>
asTup v218 fun l220 =>
asCons l220 fun v221 l222 =>
asInt .i64 v221 fun i223 =>
asCons l222 fun v224 l225 =>
asInt .i64 v224 fun i226 =>
asNil l225 (
cond (i223 == 0) (
some (.tup [], h219)) (
ldH h219 p0r p0g (p0o + 6) false 1 fun v227 =>
ldH h219 r11 g12 (o13 + 16) false 1 fun v228 =>
asInt .i64 v228 fun i229 =>
idxS 7 v227 (.int .i64 i229) fun r230 g231 o232 =>
stH h219 r230 g231 (o232 + 4) 1 (.int .i64 p1) fun h233 =>
stH h233 r230 g231 (o232 + 5) 1 (.int .i64 i223) fun h234 =>
stH h234 r230 g231 (o232 + 6) 1 (.int .i64 i226) fun h235 =>
stH h235 r11 g12 (o13 + 16) 1 (.int .i64 (-1)) fun h236 =>
some (.tup [], h236)))))))))) (
ldH h p0r p0g (p0o + 5) false 1 fun v237 =>
idxS 17 v237 (.int .i64 p2) fun r238 g239 o240 =>
ldH h r238 g239 (o240 + 0) true 16 fun v241 =>
asAgg v241 fun l242 =>
asCons l242 fun v243 l244 =>
asInt .i64 v243 fun i245 =>
asCons l244 fun v246 l247 =>
asInt .i64 v246 fun i248 =>
asCons l247 fun v249 l250 =>
asInt .i64 v249 fun i251 =>
asCons l250 fun v252 l253 =>
asInt .i64 v252 fun i254 =>
asCons l253 fun v255 l256 =>
asInt .i64 v255 fun i257 =>
asCons l256 fun v258 l259 =>
asInt .i64 v258 fun i260 =>
asCons l259 fun v261 l262 =>
asInt .i64 v261 fun i263 =>
asCons l262 fun v264 l265 =>
asInt .i64 v264 fun i266 =>
asCons l265 fun v267 l268 =>
asInt .i64 v267 fun i269 =>
asCons l268 fun v270 l271 =>
asInt .i64 v270 fun i272 =>
asCons l271 fun v273 l274 =>
asInt .i64 v273 fun i275 =>
asCons l274 fun v276 l277 =>
asInt .i64 v276 fun i278 =>
asCons l277 fun v279 l280 =>
asInt .i64 v279 fun i281 =>
asCons l280 fun v282 l283 =>
asBool v282 fun b284 =>
asCons l283 fun v285 l286 =>
asInt .i64 v285 fun i287 =>
asCons l286 fun v288 l289 =>
asInt .i64 v288 fun i290 =>
asNil l289 (
callB (C 42 [.ptr p0r p0g p0o, .int .i64 p2] h) fun v291 h292 =>
ldH h292 r238 g239 (o240 + 0) true 16 fun v293 =>
asAgg v293 fun l294 =>
asCons l294 fun v295 l296 =>
asInt .i64 v295 fun i297 =>
asCons l296 fun v298 l299 =>
asInt .i64 v298 fun i300 =>
asCons l299 fun v301 l302 =>
asInt .i64 v301 fun i303 =>
asCons l302 fun v304 l305 =>
asInt .i64 v304 fun i306 =>
asCons l305 fun v307 l308 =>
asInt .i64 v307 fun i309 =>
asCons l308 fun v310 l311 =>
asInt .i64 v310 fun i312 =>
asCons l311 fun v313 l314 =>
asInt .i64 v313 fun i315 =>
asCons l314 fun v316 l317 =>
asInt .i64 v316 fun i318 =>
asCons l317 fun v319 l320 =>
asInt .i64 v319 fun i321 =>
asCons l320 fun v322 l323 =>
asInt .i64 v322 fun i324 =>
asCons l323 fun v325 l326 =>
asInt .i64 v325 fun i327 =>
asCons l326 fun v328 l329 =>
asInt .i64 v328 fun i330 =>
asCons l329 fun v331 l332 =>
asInt .i64 v331 fun i333 =>
asCons l332 fun v334 l335 =>
asBool v334 fun b336 =>
asCons l335 fun v337 l338 =>
asInt .i64 v337 fun i339 =>
asCons l338 fun v340 l341 =>
asInt .i64 v340 fun i342 =>
asNil l341 (
sameV (.agg [.int .i64 i297, .int .i64 i300, .int .i64 i303, .int .i64 i306, .int .i64 i309, .int .i64 i312, .int .i64 i315, .int .i64 i318, .int .i64 i321, .int .i64 i324, .int .i64 i327, .int .i64 i330, .int .i64 i333, .bool b336, .int .i64 i339, .int .i64 i342]) (.agg [.int .i64 i245, .int .i64 i248, .int .i64 i251, .int .i64 i254, .int .i64 i257, .int .i64 i260, .int .i64 i263, .int .i64 i266, .int .i64 i269, .int .i64 i272, .int .i64 i275, .int .i64 i278, .int .i64 i281, .bool b284, .int .i64 i287, .int .i64 i290]) (
callB (C 41 [v291, .agg [.int .i64 i245, .int .i64 i248, .int .i64 i251, .int .i64 i254, .int .i64 i257, .int .i64 i260, .int .i64 i263, .int .i64 i266, .int .i64 i269, .int .i64 i272, .int .i64 i275, .int .i64 i278, .int .i64 i281, .bool b284, .int .i64 i287, .int .i64 i290]] h292) fun v343 h344 =>
asAgg v343 fun l345 =>
asCons l345 fun v346 l347 =>
asInt .i64 v346 fun i348 =>
asCons l347 fun v349 l350 =>
asInt .i64 v349 fun i351 =>
asCons l350 fun v352 l353 =>
asInt .i64 v352 fun i354 =>
asCons l353 fun v355 l356 =>
asInt .i64 v355 fun i357 =>
asCons l356 fun v358 l359 =>
asInt .i64 v358 fun i360 =>
asCons l359 fun v361 l362 =>
asInt .i64 v361 fun i363 =>
asCons l362 fun v364 l365 =>
asInt .i64 v364 fun i366 =>
asCons l365 fun v367 l368 =>
asInt .i64 v367 fun i369 =>
asCons l368 fun v370 l371 =>
asInt .i64 v370 fun i372 =>
asCons l371 fun v373 l374 =>
asInt .i64 v373 fun i375 =>
asCons l374 fun v376 l377 =>
asInt .i64 v376 fun i378 =>
asCons l377 fun v379 l380 =>
asInt .i64 v379 fun i381 =>
asCons l380 fun v382 l383 =>
asInt .i64 v382 fun i384 =>
asCons l383 fun v385 l386 =>
asBool v385 fun b387 =>
asCons l386 fun v388 l389 =>
asInt .i64 v388 fun i390 =>
asCons l389 fun v391 l392 =>
asInt .i64 v391 fun i393 =>
asNil l392 (
stH h344 r238 g239 (o240 + 0) 16 (.agg [.int .i64 i348, .int .i64 i351, .int .i64 i354, .int .i64 i357, .int .i64 i360, .int .i64 i363, .int .i64 i366, .int .i64 i369, .int .i64 i372, .int .i64 i375, .int .i64 i378, .int .i64 i381, .int .i64 i384, .bool b387, .int .i64 i390, .int .i64 i393]) fun h394 =>
ldH h394 r238 g239 (o240 + 0) true 16 fun v395 =>
asAgg v395 fun l396 =>
asCons l396 fun v397 l398 =>
asInt .i64 v397 fun i399 =>
asCons l398 fun v400 l401 =>
asInt .i64 v400 fun i402 =>
asCons l401 fun v403 l404 =>
asInt .i64 v403 fun i405 =>
asCons l404 fun v406 l407 =>
asInt .i64 v406 fun i408 =>
asCons l407 fun v409 l410 =>
asInt .i64 v409 fun i411 =>
asCons l410 fun v412 l413 =>
asInt .i64 v412 fun i414 =>
asCons l413 fun v415 l416 =>
asInt .i64 v415 fun i417 =>
asCons l416 fun v418 l419 =>
asInt .i64 v418 fun i420 =>
asCons l419 fun v421 l422 =>
asInt .i64 v421 fun i423 =>
asCons l422 fun v424 l425 =>
asInt .i64 v424 fun i426 =>
asCons l425 fun v427 l428 =>
asInt .i64 v427 fun i429 =>
asCons l428 fun v430 l431 =>
asInt .i64 v430 fun i432 =>
asCons l431 fun v433 l434 =>
asInt .i64 v433 fun i435 =>
asCons l434 fun v436 l437 =>
asBool v436 fun b438 =>
asCons l437 fun v439 l440 =>
asInt .i64 v439 fun i441 =>
asCons l440 fun v442 l443 =>
asInt .i64 v442 fun i444 =>
asNil l443 (
callB (C 43 [.agg [.int .i64 i399, .int .i64 i402, .int .i64 i405, .int .i64 i408, .int .i64 i411, .int .i64 i414, .int .i64 i417, .int .i64 i420, .int .i64 i423, .int .i64 i426, .int .i64 i429, .int .i64 i432, .int .i64 i435, .bool b438, .int .i64 i441, .int .i64 i444]] h394) fun v445 h446 =>
asTup v445 fun l447 =>
asCons l447 fun v448 l449 =>
asInt .i64 v448 fun i450 =>
asCons l449 fun v451 l452 =>
asInt .i64 v451 fun i453 =>
asNil l452 (
cond (i450 == 0) (
some (.tup [], h446)) (
ldH h446 p0r p0g (p0o + 6) false 1 fun v454 =>
ldH h446 r238 g239 (o240 + 16) false 1 fun v455 =>
asInt .i64 v455 fun i456 =>
idxS 7 v454 (.int .i64 i456) fun r457 g458 o459 =>
stH h446 r457 g458 (o459 + 4) 1 (.int .i64 p1) fun h460 =>
stH h460 r457 g458 (o459 + 5) 1 (.int .i64 i450) fun h461 =>
stH h461 r457 g458 (o459 + 6) 1 (.int .i64 i453) fun h462 =>
stH h462 r238 g239 (o240 + 16) 1 (.int .i64 (-1)) fun h463 =>
some (.tup [], h463)))))))))
noncomputable def buffers_game_step (C : AFun) (n : Nat) (p0r p0g p0o : Nat) (p1 p2 : Int) (h : Hp) : Option (V × Hp) := buffers_game_step_M C n p0r p0g p0o p1 p2 h
theorem buffers_game_step_eM (C : AFun) (n : Nat) (p0r p0g p0o : Nat) (p1 p2 : Int) (h : Hp) : bodyK E C 25 n Try.f25 [.ptr p0r p0g p0o, .int .i64 p1, .int .i64 p2] h = buffers_game_step_M C n p0r p0g p0o p1 p2 h := by kernel_rfl
theorem buffers_game_step_eq (n : Nat) (p0r p0g p0o : Nat) (p1 p2 : Int) (h : Hp) : ev E (n + 1) 25 [.ptr p0r p0g p0o, .int .i64 p1, .int .i64 p2] h = buffers_game_step (ev E n) n p0r p0g p0o p1 p2 h := by
  rw [ev_body rfl Try.func25, buffers_game_step_eM]
  rfl
/-! (*plunder/buffers.game).rest (26) -/
noncomputable def buffers_game_rest_B0 (C : AFun) (n : Nat) (rec0 : Nat → Nat → Nat → V → Int → V → Int → Hp → Option (V × Hp)) (t0r t0g t0o : Nat) (t3 : V) (t4 : Int) (t5 : V) (t6 : Int) (h : Hp) : Option (V × Hp) :=
ldH h t0r t0g ((t0o + 1) + 0) false 1 fun v18 =>
asInt .i64 v18 fun i19 =>
idxS 1 t3 (.int .i64 (wr .i64 (i19 + 1))) fun r20 g21 o22 =>
ldH h r20 g21 o22 false 1 fun v23 =>
asInt .i64 v23 fun i24 =>
cond (decide (t6 < i24)) (
idxS 1 t3 (.int .i64 t4) fun r25 g26 o27 =>
ldH h r25 g26 o27 false 1 fun v28 =>
asInt .i64 v28 fun i29 =>
callB (C 23 [.int .i64 t6, .int .i64 i29] h) fun v30 h31 =>
asInt .i64 v30 fun i32 =>
idxS 1 t3 (.int .i64 (wr .i64 ((wr .i64 (t4 + 1)) + i32))) fun r33 g34 o35 =>
ldH h31 r33 g34 o35 false 1 fun v36 =>
asInt .i64 v36 fun i37 =>
appendK 1 8 t5 [.int .i64 i37] 1 h31 fun v38 h39 =>
rec0 t0r t0g t0o t3 t4 v38 (wr .i64 (t6 + 1)) h39) (
some (t5, h))
noncomputable def buffers_game_rest_L0 (C : AFun) (n : Nat) : Nat → Nat → Nat → Nat → V → Int → V → Int → Hp → Option (V × Hp)
  | 0, _, _, _, _, _, _, _, _ => none
  | m + 1, t0r, t0g, t0o, t3, t4, t5, t6, h => buffers_game_rest_B0 C n (buffers_game_rest_L0 C n m) t0r t0g t0o t3 t4 t5 t6 h
noncomputable def buffers_game_rest_M (C : AFun) (n : Nat) (loop0 : Nat → Nat → Nat → V → Int → V → Int → Hp → Option (V × Hp)) (p0r p0g p0o : Nat) (h : Hp) : Option (V × Hp) :=
ldH h p0r p0g (p0o + 0) false 1 fun v1 =>
callB (C 44 [v1] h) fun v2 h3 =>
ldH h3 p0r p0g ((p0o + 1) + 0) false 1 fun v4 =>
asInt .i64 v4 fun i5 =>
idxS 1 v2 (.int .i64 (wr .i64 (i5 + 2))) fun r6 g7 o8 =>
ldH h3 r6 g7 o8 false 1 fun v9 =>
asInt .i64 v9 fun i10 =>
ldH h3 p0r p0g ((p0o + 1) + 0) false 1 fun v11 =>
asInt .i64 v11 fun i12 =>
idxS 1 v2 (.int .i64 i12) fun r13 g14 o15 =>
ldH h3 r13 g14 o15 false 1 fun v16 =>
asInt .i64 v16 fun i17 =>
loop0 p0r p0g p0o v2 i10 .nils i17 h3
noncomputable def buffers_game_rest (C : AFun) (n : Nat) (p0r p0g p0o : Nat) (h : Hp) : Option (V × Hp) := buffers_game_rest_M C n (buffers_game_rest_L0 C n n) p0r p0g p0o h
def buffers_game_rest_F0 (t0r t0g t0o : Nat) (t3 : V) (t4 : Int) (t5 : V) (t6 : Int) : Fr := { tmps := [.v (.ptr t0r t0g t0o), .bot, .bot, .v t3, .v (.int .i64 t4), .v t5, .v (.int .i64 t6), .bot, .bot, .bot, .bot, .bot, .bot, .bot, .bot, .bot, .bot, .bot, .bot, .bot, .bot, .bot, .bot, .bot, .bot, .bot, .bot, .bot, .bot, .bot, .bot, .bot, .bot, .bot, .bot, .bot, .bot, .bot, .bot, .bot, .bot, .bot, .bot, .bot, .bot, .bot, .bot, .bot, .bot, .bot, .bot, .bot, .bot, .bot, .bot, .bot, .bot, .bot], vars := fun _ => none }
theorem buffers_game_rest_eB0 (C : AFun) (n : Nat) (rec0 : Fr → Hp → Option (V × Hp)) (t0r t0g t0o : Nat) (t3 : V) (t4 : Int) (t5 : V) (t6 : Int) (h : Hp) :
    codeK E C 26 n (cIn (cIn (cSeqR (cSeqL (cSeqR (cSeqR (cSeqR (cSeqR (cOf Try.f26))))))))) (buffers_game_rest_F0 t0r t0g t0o t3 t4 t5 t6) h (kLoop (maskAt E 26 5) rec0 (kBlock 0 (kSeq E C 26 n (cSeqR (cSeqR (cSeqR (cSeqR (cSeqR (cOf Try.f26)))))) (kTop prog Try.f26)))) = buffers_game_rest_B0 C n (fun t0r t0g t0o t3 t4 t5 t6 h => rec0 (buffers_game_rest_F0 t0r t0g t0o t3 t4 t5 t6) h) t0r t0g t0o t3 t4 t5 t6 h := by kernel_rfl
theorem buffers_game_rest_eL0 (C : AFun) (n : Nat) : ∀ m, (fun t0r t0g t0o t3 t4 t5 t6 h => loopK (codeK E C 26 n (cIn (cIn (cSeqR (cSeqL (cSeqR (cSeqR (cSeqR (cSeqR (cOf Try.f26)))))))))) (maskAt E 26 5) m (buffers_game_rest_F0 t0r t0g t0o t3 t4 t5 t6) h (kBlock 0 (kSeq E C 26 n (cSeqR (cSeqR (cSeqR (cSeqR (cSeqR (cOf Try.f26)))))) (kTop prog Try.f26)))) = buffers_game_rest_L0 C n m
  | 0 => rfl
  | m + 1 => by
    funext t0r t0g t0o t3 t4 t5 t6 h
    have ih := buffers_game_rest_eL0 C n m
    have e := buffers_game_rest_eB0 C n (fun F h => loopK (codeK E C 26 n (cIn (cIn (cSeqR (cSeqL (cSeqR (cSeqR (cSeqR (cSeqR (cOf Try.f26)))))))))) (maskAt E 26 5) m F h (kBlock 0 (kSeq E C 26 n (cSeqR (cSeqR (cSeqR (cSeqR (cSeqR (cOf Try.f26)))))) (kTop prog Try.f26)))) t0r t0g t0o t3 t4 t5 t6 h
    refine (loopK_succ _ _ _ _ _ _).trans (Eq.trans e ?_)
    simp only [ih]
    rfl
theorem buffers_game_rest_eM (C : AFun) (n : Nat) (p0r p0g p0o : Nat) (h : Hp) : bodyK E C 26 n Try.f26 [.ptr p0r p0g p0o] h = buffers_game_rest_M C n (fun t0r t0g t0o t3 t4 t5 t6 h => loopK (codeK E C 26 n (cIn (cIn (cSeqR (cSeqL (cSeqR (cSeqR (cSeqR (cSeqR (cOf Try.f26)))))))))) (maskAt E 26 5) n (buffers_game_rest_F0 t0r t0g t0o t3 t4 t5 t6) h (kBlock 0 (kSeq E C 26 n (cSeqR (cSeqR (cSeqR (cSeqR (cSeqR (cOf Try.f26)))))) (kTop prog Try.f26)))) p0r p0g p0o h := by kernel_rfl
theorem buffers_game_rest_eq (n : Nat) (p0r p0g p0o : Nat) (h : Hp) : ev E (n + 1) 26 [.ptr p0r p0g p0o] h = buffers_game_rest (ev E n) n p0r p0g p0o h := by
  rw [ev_body rfl Try.func26, buffers_game_rest_eM]
  rw [buffers_game_rest_eL0 (ev E n) n n]
  rfl
/-! (*plunder/buffers.Memory).Log (27) -/
noncomputable def buffers_Memory_Log_M (C : AFun) (n : Nat) (p0r p0g p0o : Nat) (h : Hp) : Option (V × Hp) :=
ldH h p0r p0g (p0o + 0) false 1 fun v1 =>
callB (C 35 [v1] h) fun v2 h3 =>
some (v2, h3)
noncomputable def buffers_Memory_Log (C : AFun) (n : Nat) (p0r p0g p0o : Nat) (h : Hp) : Option (V × Hp) := buffers_Memory_Log_M C n p0r p0g p0o h
theorem buffers_Memory_Log_eM (C : AFun) (n : Nat) (p0r p0g p0o : Nat) (h : Hp) : bodyK E C 27 n Try.f27 [.ptr p0r p0g p0o] h = buffers_Memory_Log_M C n p0r p0g p0o h := by kernel_rfl
theorem buffers_Memory_Log_eq (n : Nat) (p0r p0g p0o : Nat) (h : Hp) : ev E (n + 1) 27 [.ptr p0r p0g p0o] h = buffers_Memory_Log (ev E n) n p0r p0g p0o h := by
  rw [ev_body rfl Try.func27, buffers_Memory_Log_eM]
  rfl
end Go.Ev.Ytkgfoiinbnhpbaa
