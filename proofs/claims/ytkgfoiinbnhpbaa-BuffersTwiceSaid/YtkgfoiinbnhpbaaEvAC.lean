/- Small words in which the evaluator's run of a function's text is written down. -/
import Derived.Test.YtkgfoiinbnhpbaaEvA
namespace Go.Ev
open Go
section
variable {ρ : Type}
def asInt (kd : IntKind) (v : V) (k : Int → Option ρ) : Option ρ := match v with | .int kd' n => (match decide (kd' = kd) with | true => k n | false => none) | _ => none
def asBool (v : V) (k : Bool → Option ρ) : Option ρ := match v with | .bool b => k b | _ => none
def asTup (v : V) (k : List V → Option ρ) : Option ρ := match v with | .tup vs => k vs | _ => none
def asAgg (v : V) (k : List V → Option ρ) : Option ρ := match v with | .agg vs => k vs | _ => none
def asCons (l : List V) (k : V → List V → Option ρ) : Option ρ := match l with | [] => none | v :: vs => k v vs
def asPtr (v : V) (k : Nat → Nat → Nat → Option ρ) : Option ρ := match v with | .ptr r g o => k r g o | _ => none
def asIface (t : TypeId) (v : V) (k : V → Option ρ) : Option ρ := match v with | .iface t' v => (match decide (t' = t) with | true => k v | false => none) | _ => none
def asNil (l : List V) (k : Option ρ) : Option ρ := match l with | [] => k | _ :: _ => none
def callB (x : Option (V × Hp)) (k : V → Hp → Option ρ) : Option ρ := x.bind fun r => k r.1 r.2
def invB (P : Program) (C : AFun) (m : V) (name : String) (args : List V) (h : Hp) (k : V → Hp → Option ρ) : Option ρ :=
  match FV.v m with
  | .v (.iface t v) => match amethod P t v name with
    | some fr => (C fr.1 (fr.2 :: args) h).bind fun r => k r.1 r.2
    | none => none
  | _ => none
def condV (v : V) (a b : Option ρ) : Option ρ := match FV.v v with | .v (.bool x) => (match x with | true => a | false => b) | _ => none
def newB (h : Hp) (x : Row) (k : Nat → Hp → Option ρ) : Option ρ := k h.next (h.new x)
def ldH (h : Hp) (r g o : Nat) (agg : Bool) (size : Nat) (k : V → Option ρ) : Option ρ :=
  (h.rows r).bind fun x => if x.seen g ∧ o < g * x.size ∧ o + size ≤ g * x.size then partK agg size x.cells o k else none
def stH (h : Hp) (r g o size : Nat) (v : V) (k : Hp → Option ρ) : Option ρ :=
  match decide (v.isTup = false ∧ v.cells.length = size) with
  | true => (h.rows r).bind fun x => if x.now g ∧ o + v.cells.length ≤ x.cells.length then k (h.put r { cells := splice x.cells o v.cells, size := x.size, bytes := x.bytes, clean := g, ro := x.ro }) else none
  | false => none
def stX (h : Hp) (p : V) (size : Nat) (v : V) (k : Hp → Option ρ) : Option ρ :=
  match decide (v.isTup = false ∧ v.cells.length = size) with
  | true => match FV.v p with
    | .v (.ptr r g o) => (h.rows r).bind fun x => if x.now g ∧ o + v.cells.length ≤ x.cells.length then k (h.put r { cells := splice x.cells o v.cells, size := x.size, bytes := x.bytes, clean := g, ro := x.ro }) else none
    | _ => none
  | false => none
/-- A value that takes so many cells. -/
def okV (size : Nat) (v : V) (k : Option ρ) : Option ρ := match decide (v.isTup = false ∧ v.cells.length = size) with | true => k | false => none
def stL (cs : List V) (o : Nat) (v : V) (k : List V → Option ρ) : Option ρ := if o + v.cells.length ≤ cs.length then k (splice cs o v.cells) else none
def partA (size : Nat) (cs : List V) (off : Nat) (k : List V → Option ρ) : Option ρ := if off + size ≤ cs.length then k ((cs.drop off).take size) else none
def fieldV (agg : Bool) (size off : Nat) (v : V) (k : V → Option ρ) : Option ρ := match FV.v v with | .v (.agg cs) => partK agg size cs off k | _ => none
def extB (v : V) (i : Nat) (k : V → Option ρ) : Option ρ := match FV.v v with | .v (.tup vs) => (vs[i]?).bind k | _ => none
def fldS (v : V) (k : Nat → Nat → Nat → Option ρ) : Option ρ := match FV.v v with | .v (.ptr r g o) => k r g o | _ => none
def nilS (P : Program) (v : V) (k : V → Option ρ) : Option ρ :=
  match FV.v v with
    | .v (.ptr r g o) => k (.ptr r g o)
    | .v (.iface t v) => k (.iface t v)
    | .v (.fn (.func f) c) => k (.fn (.func f) c)
    | .v (.meth name (.iface t v)) => match methOK P t v name with | true => k (.meth name (.iface t v)) | false => none
    | _ => none
def methS (P : Program) (name : String) (x : V) (k : TypeId → V → Option ρ) : Option ρ :=
  match x with
  | .iface t v => (match methOK P t v name with | true => k t v | false => none)
  | _ => none
def methB (P : Program) (t : TypeId) (v : V) (name : String) (k : Option ρ) : Option ρ := match methOK P t v name with | true => k | false => none
def idxS (q : Nat) (x i : V) (k : Nat → Nat → Nat → Option ρ) : Option ρ :=
  match FV.v i with
  | .v (.int _ i) => match FV.v x with
    | .v (.sl r g s o n) => if s = q ∧ 0 ≤ i ∧ i < n then k r g ((o + i.toNat) * q) else none
    | _ => none
  | _ => none
def slcS (q : Nat) (x : V) (lo hi : Option FV) (k : V → Option ρ) : Option ρ :=
  match FV.v x with
  | .v (.sl r g s o n) => match decide (s = q) with | true => boundK hi n (g - o) fun b => boundK lo 0 b fun a => k (.sl r g s (o + a) (b - a)) | false => none
  | .v .nils => boundK hi 0 0 fun b => boundK lo 0 b fun _ => k .nils
  | _ => none
def lenS (x : V) (k : Int → Option ρ) : Option ρ := match FV.v x with | .v (.sl _ _ _ _ n) => k n | .v .nils => k 0 | _ => none
def capS (x : V) (k : Option ρ) : Option ρ := match FV.v x with | .v .nils => k | _ => none
def srcS (size : Nat) (h : Hp) (x : V) (k : List V → Nat → Option ρ) : Option ρ :=
  match FV.v x with
  | .v .nils => k [] 0
  | .v (.sl r g s o n) => (h.rows r).bind fun x => if s = size ∧ x.seen g ∧ o + n ≤ g then k ((x.cells.drop (o * size)).take (n * size)) n else none
  | _ => none
def srcL (size : Nat) (cs : List V) (n : Nat) (k : List V → Nat → Option ρ) : Option ρ := if cs.length = n * size then k cs n else none
def srcZ (z : List V) (bytes : Nat) (l : Int) (k : List V → Nat → Option ρ) : Option ρ :=
  if 0 ≤ l ∧ l ≤ 4611686018427387904 ∧ l * bytes ≤ 281474976710656 then k (repl l.toNat z) l.toNat else none
def mkS (z : List V) (size bytes : Nat) (l c : Int) (h : Hp) (k : Nat → Nat → Hp → Option ρ) : Option ρ :=
  if 0 ≤ l ∧ l ≤ c ∧ c * bytes ≤ roomB ∧ c ≤ 4611686018427387904 then k h.next l.toNat (h.new { cells := repl l.toNat z, size := size, bytes := bytes, clean := 0, ro := false }) else none
def fillB (place : Nat → Option (Nat × Nat)) (cs : List V) (parts : List (Nat × V)) (k : List V → Option ρ) : Option ρ := match fillAll place cs parts with | some cs => k cs | none => none
def pickV (c : Bool) (a b : V) (k : V → Option ρ) : Option ρ :=
  match FV.v a, FV.v b with
  | .v (.bool x), .v (.bool y) => k (.bool (bif c then x else y))
  | _, _ => match c with | true => k a | false => k b
def sameV (a b : V) (k : Option ρ) : Option ρ := match V.same a b with | true => k | false => none
def inA (i n : Int) (k : Option ρ) : Option ρ := if 0 ≤ i ∧ i < n then k else none
def ifI (c : Prop) [Decidable c] (k : Option ρ) : Option ρ := if c then none else k
/-- What goes on behind a piece of code. -/
def kSeq (E : Env) (C : AFun) (f n : Nat) (b : Code) (k : Ex → Fr → Hp → Option ρ) : Ex → Fr → Hp → Option ρ :=
  fun e F h => match e with | .normal => codeK E C f n b F h k | .exit i => k (.exit i) F h | .ret => k .ret F h
def kBlock (id : Nat) (k : Ex → Fr → Hp → Option ρ) : Ex → Fr → Hp → Option ρ :=
  fun e F' h' => match e with | .exit i => (match decide (i = id) with | true => k .normal F' h' | false => k (.exit i) F' h') | .normal => k .normal F' h' | .ret => k .ret F' h'
def kLoop (mask : Fr → Fr) (rec : Fr → Hp → Option ρ) (k : Ex → Fr → Hp → Option ρ) : Ex → Fr → Hp → Option ρ :=
  fun e F' h' => match e with | .normal => rec (mask F') h' | .exit i => k (.exit i) F' h' | .ret => k .ret F' h'
end
def kTop (P : Program) (fn : Func) : Ex → Fr → Hp → Option (V × Hp) :=
  fun e F h' => match e with
      | .exit _ => none
      | .normal => resultsK P F h' fn.results.toList fun l => some (oneOrTup l, h')
      | .ret => resultsK P F h' fn.results.toList fun l => some (oneOrTup l, h')
def cSeqL : Code → Code | .seq a _ => a | _ => .skip
def cSeqR : Code → Code | .seq _ b => b | _ => .skip
def cThen : Code → Code | .cond _ a _ => a | _ => .skip
def cElse : Code → Code | .cond _ _ b => b | _ => .skip
def cIn : Code → Code | .block _ c => c | .loop c => c | .scope c => c | _ => .skip
def cOf (fn : Func) : Code := match fn.body with | some c => c | none => .skip
def maskAt (E : Env) (f id : Nat) (F : Fr) : Fr := F.mask (E.live f id)
theorem loopK_succ {ρ : Type} (body : Fr → Hp → (Ex → Fr → Hp → Option ρ) → Option ρ) (mask : Fr → Fr) (n : Nat) (F : Fr) (h : Hp) (k : Ex → Fr → Hp → Option ρ) :
    loopK body mask (n + 1) F h k = body F h (kLoop mask (fun F h => loopK body mask n F h k) k) := rfl
theorem ev_body {E : Env} {f n : Nat} {fn : Func} {args : List V} {h : Hp} (hn : E.norm f = false) (hf : E.P.funcs[f]? = some fn) : ev E (n + 1) f args h = bodyK E (ev E n) f n fn args h := by
  simp only [ev, hf, hn]
/-- What the evaluator is told of a program, as a table. -/
structure FT where
  heap : List Nat
  live : List (Nat × List Nat × List Nat)
  sched : List (Nat × List Ent)
def look {α : Type} (d : α) (i : Nat) : List (Nat × α) → α | [] => d | (j, a) :: l => match decide (i = j) with | true => a | false => look d i l
def nth (i : Nat) : List FT → FT | [] => ⟨[], [], []⟩ | a :: l => match i with | 0 => a | i + 1 => nth i l
def mem (i : Nat) : List Nat → Bool | [] => false | j :: l => match decide (i = j) with | true => true | false => mem i l
def looko {α : Type} (i : Nat) : List (Nat × α) → Option α | [] => none | (j, a) :: l => match decide (i = j) with | true => some a | false => looko i l
def envOf (P : Program) (fts : List FT) (shs : List (Nat × Sh)) (norm : List Nat) : Env :=
  { P := P, heapAt := fun f d => mem d (nth f fts).heap, live := fun f id => look ([], []) id (nth f fts).live, sched := fun f id => looko id (nth f fts).sched, norm := fun f => mem f norm, sh := fun t => look (.one (.one .any)) t shs }
section
variable {ρ : Type} {r : ρ}
theorem asInt_some {kd : IntKind} {v : V} {k : Int → Option ρ} (h : asInt kd v k = some r) : ∃ n, v = .int kd n ∧ k n = some r := by
  cases v <;> first | (cases h; done) | skip
  rename_i kd' n
  by_cases e : kd' = kd
  · subst e; exact ⟨n, rfl, by simpa [asInt] using h⟩
  · simp [asInt, e] at h
theorem asBool_some {v : V} {k : Bool → Option ρ} (h : asBool v k = some r) : ∃ b, v = .bool b ∧ k b = some r := by
  cases v <;> first | (cases h; done) | exact ⟨_, rfl, h⟩
theorem asTup_some {v : V} {k : List V → Option ρ} (h : asTup v k = some r) : ∃ b, v = .tup b ∧ k b = some r := by
  cases v <;> first | (cases h; done) | exact ⟨_, rfl, h⟩
theorem asAgg_some {v : V} {k : List V → Option ρ} (h : asAgg v k = some r) : ∃ b, v = .agg b ∧ k b = some r := by
  cases v <;> first | (cases h; done) | exact ⟨_, rfl, h⟩
theorem asPtr_some {v : V} {k : Nat → Nat → Nat → Option ρ} (h : asPtr v k = some r) : ∃ a b c, v = .ptr a b c ∧ k a b c = some r := by
  cases v <;> first | (cases h; done) | exact ⟨_, _, _, rfl, h⟩
theorem asIface_some {t : TypeId} {v : V} {k : V → Option ρ} (h : asIface t v k = some r) : ∃ u, v = .iface t u ∧ k u = some r := by
  cases v <;> first | (cases h; done) | skip
  rename_i t' u
  by_cases e : t' = t
  · subst e; exact ⟨u, rfl, by simpa [asIface] using h⟩
  · simp [asIface, e] at h
theorem asCons_some {l : List V} {k : V → List V → Option ρ} (h : asCons l k = some r) : ∃ v vs, l = v :: vs ∧ k v vs = some r := by
  cases l <;> first | (cases h; done) | exact ⟨_, _, rfl, h⟩
theorem asNil_some {l : List V} {k : Option ρ} (h : asNil l k = some r) : l = [] ∧ k = some r := by
  cases l <;> first | (cases h; done) | exact ⟨rfl, h⟩
end
/-- A function's number, and what it does with arguments of its form. -/
abbrev Tab := List (Nat × (List V → Hp → Option (V × Hp)))
def atTab : Tab → Nat → List V → Hp → Option (V × Hp)
  | [], _, _, _ => none
  | e :: l, f, args, h => match Nat.beq f e.1 with | true => e.2 args h | false => atTab l f args h
def TabOK (E : Env) (C : AFun) (n : Nat) (e : Nat × (List V → Hp → Option (V × Hp))) : Prop :=
  ∀ args h r, e.2 args h = some r → ∃ fn, E.P.funcs[e.1]? = some fn ∧ bodyK E C e.1 n fn args h = some r
theorem atTab_ok {E : Env} {C : AFun} {n f : Nat} {args : List V} {h : Hp} {r : V × Hp} : ∀ {l : Tab}, (∀ e ∈ l, TabOK E C n e) → atTab l f args h = some r → ∃ fn, E.P.funcs[f]? = some fn ∧ bodyK E C f n fn args h = some r
  | [], _, hh => by cases hh
  | e :: l, hl, hh => by
    simp only [atTab] at hh
    split at hh
    · rename_i hb
      have := Nat.eq_of_beq_eq_true hb
      subst this
      exact hl e (by simp) args h r hh
    · exact atTab_ok (fun e he => hl e (by simp [he])) hh
/-- The evaluator by a table of what each function comes to; at the functions 'norm' the heap is worked out. -/
def evT (tab : AFun → Nat → Tab) (norm : List Nat) : Nat → AFun
  | 0, _, _, _ => none
  | n + 1, f, args, h => forceCells args fun args => match mem f norm with
    | true => normK h fun h => atTab (tab (evT tab norm n) n) f args h
    | false => atTab (tab (evT tab norm n) n) f args h
end Go.Ev
