/- Definitions of a plain evaluator for the structured code of the model: values, rows, frames, operations, code, calls. No proofs here. -/
import GoSem.Step
namespace Go.Ev
open Go

/-- Plain values. 'ptr r g off': cell 'off' of row r, seen when the row had g elements. 'sl r g s off len': elements (of s cells) off, .. of row r, seen when it had g elements. -/
inductive V where
  | bool (b : Bool)
  | int (k : IntKind) (n : Int)
  | str (s : ByteArray)
  | nilp
  | ptr (r g off : Nat)
  | nils
  | sl (r g s off len : Nat)
  | fn (f : Fn) (caps : List V)
  | nilf
  | iface (t : TypeId) (v : V)
  | niliface
  | agg (cs : List V)
  | tup (vs : List V)
  | meth (name : String) (v : V)

/-- What a slot of a frame holds: nothing known; a value; a place in one of the frame's own variables; a list of n elements that lies in one of them, and is only appended or copied from. -/
inductive FV where
  | bot
  | v (x : V)
  | self (d off : Nat)
  | lit (d n : Nat)

/-- A row of elements of 'size' cells each. Views of fewer than 'clean' elements are stale. 'ro': it is never written. 'bytes': an element's size in bytes. -/
structure Row where
  cells : List V
  size : Nat
  bytes : Nat
  clean : Nat
  ro : Bool

structure Hp where
  rows : Nat → Option Row
  next : Nat

structure Fr where
  tmps : List FV
  vars : Nat → Option (List V)


def Hp.put (h : Hp) (r : Nat) (x : Row) : Hp := { rows := fun i => if i = r then some x else h.rows i, next := h.next }
def Hp.del (h : Hp) (r : Nat) : Hp := { rows := fun i => if i = r then none else h.rows i, next := h.next }
def Hp.new (h : Hp) (x : Row) : Hp := { rows := fun i => if i = h.next then some x else h.rows i, next := h.next + 1 }
def Fr.get (F : Fr) (t : Nat) : FV := F.tmps.getD t .bot
def Fr.set (F : Fr) (t : Nat) (x : FV) : Fr := { tmps := F.tmps.set t x, vars := F.vars }
def Fr.put (F : Fr) (d : Option Nat) (x : FV) : Fr := match d with | some t => F.set t x | none => F
def Fr.setVar (F : Fr) (d : Nat) (cs : List V) : Fr := { tmps := F.tmps, vars := fun i => if i = d then some cs else F.vars i }

def ofConst : Value → FV
  | .bool b => .v (.bool b)
  | .int k n => .v (.int k n)
  | .string s => .v (.str s)
  | .pointer none => .v .nilp
  | .slice none 0 0 => .v .nils
  | .nilFunc => .v .nilf
  | .nilIface => .v .niliface
  | _ => .bot

def isConst : Operand → Bool
  | .const _ => true
  | _ => false

def Fr.eval (F : Fr) : Operand → FV
  | .tmp t => F.get t
  | .const c => ofConst c
  | .func f => .v (.fn (.func f) [])
  | .global _ => .bot

/-- One cell's value: no struct, no tuple. -/
def V.one : V → Bool
  | .agg _ => false
  | .tup _ => false
  | _ => true
def V.isTup : V → Bool
  | .tup _ => true
  | _ => false
def V.cells : V → List V
  | .agg cs => cs
  | v => [v]

def sizeOf (P : Program) (t : TypeId) : Nat := P.cellsOf t
/-- Is it a struct or an array, and how many cells does it take? -/
def ty (P : Program) (t : TypeId) : Option (Bool × Nat) :=
  match P.underlying t with
  | some (.struct _) => some (true, P.cellsOf t)
  | some (.array _ _) => some (true, P.cellsOf t)
  | some _ => some (false, P.cellsOf t)
  | none => none

section
variable {ρ : Type}

/-- The part of some cells that a type takes at a place. -/
def partK (agg : Bool) (size : Nat) (cs : List V) (off : Nat) (k : V → Option ρ) : Option ρ :=
  match agg with
  | true => if off + size ≤ cs.length then k (.agg ((cs.drop off).take size)) else none
  | false => cs[off]?.bind k

/-- vs written over the cells from 'off' on. -/
def splice (cs : List V) (off : Nat) (vs : List V) : List V := cs.take off ++ vs ++ cs.drop (off + vs.length)

/-- A zero value out of the program's table. -/
def ofZero : Value → Option V
  | .bool b => some (.bool b)
  | .int k n => some (.int k n)
  | .string s => some (.str s)
  | .pointer none => some .nilp
  | .slice none 0 0 => some .nils
  | .nilFunc => some .nilf
  | .nilIface => some .niliface
  | _ => none
def ofZeros : List Value → Option (List V)
  | [] => some []
  | x :: xs => match ofZero x, ofZeros xs with | some v, some vs => some (v :: vs) | _, _ => none
def zeroCells (P : Program) (t : TypeId) : Option (List V) :=
  match P.info? t with
  | some i => match i.zero with
    | some z => ofZeros z.cells.toList
    | none => none
  | none => none

/-- Go's wrapping round; a kernel that meets an unknown number stops here at once. -/
def wr (kd : IntKind) (n : Int) : Int := match n with | .ofNat m => kd.wrap (.ofNat m) | .negSucc m => kd.wrap (.negSucc m)
theorem wr_eq (kd : IntKind) (n : Int) : wr kd n = kd.wrap n := by cases n <;> rfl
def cmpK (op : BinOp) (x y : Int) (k : V → Option ρ) : Option ρ :=
  match op with
  | .eql => k (.bool (x == y))
  | .neq => k (.bool (x != y))
  | .lss => k (.bool (decide (x < y)))
  | .leq => k (.bool (decide (x ≤ y)))
  | .gtr => k (.bool (decide (x > y)))
  | .geq => k (.bool (decide (x ≥ y)))
  | _ => none

def intK (op : BinOp) (kd : IntKind) (x y : Int) (k : V → Option ρ) : Option ρ :=
  match op with
  | .add => k (.int kd (wr kd (x + y)))
  | .sub => k (.int kd (wr kd (x - y)))
  | .mul => k (.int kd (wr kd (x * y)))
  | .quo => if y = 0 then none else k (.int kd (wr kd (x.tdiv y)))
  | .rem => if y = 0 then none else k (.int kd (x.tmod y))
  | .and => k (.int kd (wr kd (BitVec.ofInt kd.bits x &&& BitVec.ofInt kd.bits y).toNat))
  | .or => k (.int kd (wr kd (BitVec.ofInt kd.bits x ||| BitVec.ofInt kd.bits y).toNat))
  | .xor => k (.int kd (wr kd (BitVec.ofInt kd.bits x ^^^ BitVec.ofInt kd.bits y).toNat))
  | .andNot => k (.int kd (wr kd (BitVec.ofInt kd.bits x &&& ~~~ BitVec.ofInt kd.bits y).toNat))
  | _ => cmpK op x y k

/-- x << y and x >> y (the kinds need not be the same). -/
def shiftK (left : Bool) (kd : IntKind) (x y : Int) (k : V → Option ρ) : Option ρ :=
  if y < 0 then none else
  match left with
  | true => k (.int kd (wr kd (x * 2 ^ min y.toNat kd.bits)))
  | false => k (.int kd (x.fdiv (2 ^ min y.toNat kd.bits)))

inductive Leaf where | bool | int | str
/-- Are two plain cells of one kind the same? -/
def eqLeaf : Leaf → V → V → Option Bool
  | .bool, .bool a, .bool b => some (a == b)
  | .int, .int k a, .int k' b => match decide (k = k') with | true => some (a == b) | false => none
  | .str, .str a, .str b => some (a.toList == b.toList)
  | _, _, _ => none
def eqCells : List Leaf → List V → List V → Option Bool
  | [], [], [] => some true
  | l :: ls, a :: as, b :: bs => match eqLeaf l a b, eqCells ls as bs with | some x, some y => some (x && y) | _, _ => none
  | _, _, _ => none

/-- The kinds of the cells of a type all of whose cells are numbers, bools or strings: structs of structs of such; no field called '_'. -/
def leaves (P : Program) : Nat → TypeId → Option (List Leaf)
  | 0, _ => none
  | n + 1, t => match P.underlying t with
    | some .bool => some [.bool]
    | some (.int _) => some [.int]
    | some .string => some [.str]
    | some (.struct fs) => match P.stoodInHeld t with | true => none | false => fieldLeaves (leaves P n) P.cellsOf fs.toList 0
    | _ => none
where
  fieldLeaves (ok : TypeId → Option (List Leaf)) (size : TypeId → Nat) : List Field → Nat → Option (List Leaf)
    | [], _ => some []
    | f :: fs, i => match ok f.type with
      | some l => match decide (f.name ≠ "_" ∧ f.offset = i ∧ size f.type = l.length) with
        | true => match fieldLeaves ok size fs (i + l.length) with
          | some m => some (l ++ m)
          | none => none
        | false => none
      | none => none

/-- 'lit': one of the two is a constant of the text. -/
def eqV (P : Program) (t : TypeId) (lit : Bool) (x y : V) : Option Bool :=
  match P.underlying t with
  | some .bool => match x, y with
    | .bool a, .bool b => some (a == b)
    | _, _ => none
  | some (.pointer _) => match x, y with
    | .nilp, .nilp => some true
    | .nilp, .ptr _ _ _ => some false
    | .ptr _ _ _, .nilp => some false
    | _, _ => none
  | some (.interface _) => match x, y with
    | .niliface, .niliface => match lit with | true => some true | false => none
    | .niliface, .iface _ _ => some false
    | .iface _ _, .niliface => some false
    | _, _ => none
  | some (.slice _) => match x, y with
    | .nils, .nils => some true
    | .nils, .sl _ _ _ _ _ => some false
    | .sl _ _ _ _ _, .nils => some false
    | _, _ => none
  | some (.struct _) => match x, y with
    | .agg as, .agg bs => match P.eqGuardType P.depth t, leaves P 8 t with | false, some l => eqCells l as bs | _, _ => none
    | _, _ => none
  | _ => none

def binK (P : Program) (op : BinOp) (t : TypeId) (lit : Bool) (x y : V) (k : V → Option ρ) : Option ρ :=
  match x, y with
  | .int kd a, .int kd' b => match op with
    | .shl => shiftK true kd a b k
    | .shr => shiftK false kd a b k
    | _ => match decide (kd = kd') with | true => intK op kd a b k | false => none
  | x, y =>
    match op with
    | .eql => (eqV P t lit x y).bind fun b => k (.bool b)
    | .neq => (eqV P t lit x y).bind fun b => k (.bool (!b))
    | _ => none

def unK (op : UnOp) (x : V) (k : V → Option ρ) : Option ρ :=
  match op, x with
  | .neg, .int kd n => k (.int kd (wr kd (0 - n)))
  | .not, .bool b => k (.bool !b)
  | _, _ => none

def convK (P : Program) (src dst : TypeId) (x : V) (k : V → Option ρ) : Option ρ :=
  match P.underlying src, P.underlying dst, x with
  | some (.int _), some (.int kd), .int _ n => k (.int kd (wr kd n))
  | _, _, _ => none

/-- A field's place, whether it is a struct or an array, its cells (some). -/
def fieldOf (P : Program) (s : TypeId) (f : Nat) : Option (Nat × Bool × Nat) :=
  match P.underlying s with
  | some (.struct fs) => match fs[f]? with
    | some x => match ty P x.type with
      | some q => match decide (q.2 = 0) with | true => none | false => some (x.offset, q.1, q.2)
      | none => none
    | none => none
  | _ => none

def elemOf (P : Program) (t : TypeId) : Option TypeId :=
  match P.underlying t with | some (.slice e) => some e | _ => none
/-- A slice's element type, its cells, its bytes; the cells are some. -/
def elemInfo (P : Program) (t : TypeId) : Option (TypeId × Nat × Nat) :=
  match elemOf P t with
  | some e => match zeroCells P e with
    | some z => match decide (sizeOf P e = z.length ∧ 0 < z.length) with | true => some (e, z.length, P.bytesOf e) | false => none
    | none => none
  | none => none

/-- The cells of a struct or of an array of parts. -/
def fillOne (cs : List V) (off size : Nat) (x : V) : Option (List V) :=
  match decide (x.isTup = false ∧ x.cells.length = size ∧ off + size ≤ cs.length) with | true => some (splice cs off x.cells) | false => none
def fillAll (place : Nat → Option (Nat × Nat)) : List V → List (Nat × V) → Option (List V)
  | cs, [] => some cs
  | cs, (i, x) :: rest => match place i with
    | some p => match fillOne cs p.1 p.2 x with
      | some cs' => fillAll place cs' rest
      | none => none
    | none => none
/-- Are all parts' types there? -/
def partsThere (P : Program) (t : TypeId) : Bool :=
  match P.underlying t with
  | some (.struct fs) => fs.toList.all fun f => (P.info? f.type).isSome
  | some (.array _ e) => (P.info? e).isSome
  | _ => false
def placeOf (P : Program) (t : TypeId) (i : Nat) : Option (Nat × Nat) :=
  match P.underlying t with
  | some (.struct fs) => match fs[i]? with | some f => some (f.offset, sizeOf P f.type) | none => none
  | some (.array _ e) => some (i * sizeOf P e, sizeOf P e)
  | _ => none

def asK (x : FV) (k : V → Option ρ) : Option ρ := match x with | .v x => k x | _ => none
def partsK (ε : Operand → FV) : List (Nat × Operand) → (List (Nat × V) → Option ρ) → Option ρ
  | [], k => k []
  | (i, x) :: rest, k => asK (ε x) fun v => partsK ε rest fun l => k ((i, v) :: l)
def argsK (ε : Operand → FV) : List Operand → (List V → Option ρ) → Option ρ
  | [], k => k []
  | x :: rest, k => asK (ε x) fun v => argsK ε rest fun l => k (v :: l)

def lenK (P : Program) (t : TypeId) (x : FV) (k : FV → Option ρ) : Option ρ :=
  match P.underlying t with
  | some (.slice _) => match x with
    | .v (.sl _ _ _ _ n) => k (.v (.int .i64 n))
    | .v .nils => k (.v (.int .i64 0))
    | _ => none
  | some .string => match x with
    | .v (.str s) => k (.v (.int .i64 s.size))
    | _ => none
  | _ => none

def idxK (P : Program) (t : TypeId) (x i : FV) (k : FV → Option ρ) : Option ρ :=
  match i with
  | .v (.int _ i) =>
    match P.underlying t with
    | some (.slice e) => match ty P e with
      | some q => match x with
        | .v (.sl r g s o n) => if s = q.2 ∧ 0 ≤ i ∧ i < n then k (.v (.ptr r g ((o + i.toNat) * q.2))) else none
        | _ => none
      | none => none
    | some (.array n e) => match ty P e with
      | some q => match x with
        | .v (.ptr r g o) => if 0 ≤ i ∧ i < n then k (.v (.ptr r g (o + i.toNat * q.2))) else none
        | .self d o => if 0 ≤ i ∧ i < n then k (.self d (o + i.toNat * q.2)) else none
        | _ => none
      | none => none
    | _ => none
  | _ => none

def indexK (P : Program) (t : TypeId) (x i : FV) (k : FV → Option ρ) : Option ρ :=
  match i with
  | .v (.int _ i) =>
    match P.underlying t with
    | some (.array n e) => match ty P e with
      | some q => match x with
        | .v (.agg cs) => if 0 ≤ i ∧ i < n then partK q.1 q.2 cs (i.toNat * q.2) fun y => k (.v y) else none
        | _ => none
      | none => none
    | some .string => match x with
      | .v (.str s) => if 0 ≤ i then (s[i.toNat]?).bind fun b => k (.v (.int .u8 b.toNat)) else none
      | _ => none
    | _ => none
  | _ => none

def fieldOfT (P : Program) (s : TypeId) (f : Nat) : Option ((Nat × Bool × Nat) × TypeId) :=
  match P.underlying s with
  | some (.struct fs) => match fs[f]? with
    | some x => match ty P x.type with
      | some q => some ((x.offset, q.1, q.2), x.type)
      | none => none
    | none => none
  | _ => none
/-- The method that an interface value's type has. -/
def afollow (P : Program) : List FieldStep → TypeId → V → Option (TypeId × V)
  | [], t, x => some (t, x)
  | s :: rest, _, x => match s.deref, x with
    | false, .agg cs => match fieldOfT P s.struct s.index with
      | some p => partK p.1.2.1 p.1.2.2 cs p.1.1 fun y => afollow P rest p.2 y
      | none => none
    | _, _ => none
/-- Is a method value's receiver, behind this interface value, seen to be no nil pointer that is followed? -/
def methOK (P : Program) (t : TypeId) (v : V) (name : String) : Bool :=
  match P.info? t with
  | some i => match i.methods.find? (·.name == name) with
    | some m => match afollow P m.path.toList t v with
      | some x => match m.func with
        | some fp => match fp.2 with
          | true => true
          | false => match P.underlying x.1, x.2 with
            | some (.pointer _), .ptr _ _ _ => true
            | some (.pointer _), _ => false
            | some _, _ => true
            | none, _ => false
        | none => false
      | none => false
    | none => false
  | none => false

/-- Operations that look at the frame's slots alone. -/
def pureK (P : Program) (op : Op) (ε : Operand → FV) (k : FV → Option ρ) : Option ρ :=
  match op with
  | .move x | .assign x => k (ε x)
  | .pick c a b => match ε c with
    | .v (.bool c) => match ε a, ε b with
      | .v (.bool x), .v (.bool y) => k (.v (.bool (bif c then x else y)))
      | x, y => match c with | true => k x | false => k y
    | _ => none
  | .nilCheck x => match ε x with
    | .v (.ptr r g o) => k (.v (.ptr r g o))
    | .self d o => k (.self d o)
    | .v (.iface t v) => k (.v (.iface t v))
    | .v (.fn (.func f) c) => k (.v (.fn (.func f) c))
    | .v (.meth name (.iface t v)) => match methOK P t v name with | true => k (.v (.meth name (.iface t v))) | false => none
    | _ => none
  | .binOp op t x y _ => asK (ε x) fun a => asK (ε y) fun b => binK P op t (isConst x || isConst y) a b fun c => k (.v c)
  | .unOp op _ x => asK (ε x) fun a => unK op a fun b => k (.v b)
  | .convert src dst x => asK (ε x) fun a => convK P src dst a fun b => k (.v b)
  | .makeInterface t x => asK (ε x) fun a => match P.underlying t with | some (.interface _) => none | some _ => k (.v (.iface t a)) | none => none
  | .makeFunc (.method name) first caps => match first.toList, caps.toList with
    | [x], [] => asK (ε x) fun v => k (.v (.meth name v))
    | _, _ => none
  | .makeFunc (.func f) first caps => match first.toList with | [] => argsK ε caps.toList fun l => k (.v (.fn (.func f) l)) | _ => none
  | .fieldAddr s x f => match fieldOf P s f with
    | some p => match ε x with
      | .v (.ptr r g o) => k (.v (.ptr r g (o + p.1)))
      | .self d o => k (.self d (o + p.1))
      | _ => none
    | none => none
  | .field s x f => match fieldOf P s f with
    | some p => match ε x with
      | .v (.agg cs) => partK p.2.1 p.2.2 cs p.1 fun y => k (.v y)
      | _ => none
    | none => none
  | .indexAddr t x i => idxK P t (ε x) (ε i) k
  | .index t x i => indexK P t (ε x) (ε i) k
  | .extract t i => match ε t with
    | .v (.tup vs) => (vs[i]?).bind fun y => k (.v y)
    | _ => none
  | .build t ps => partsK ε ps.toList fun l => match zeroCells P t, partsThere P t with
    | some z, true => match fillAll (placeOf P t) z l with | some cs => k (.v (.agg cs)) | none => none
    | _, _ => none
  | .call c => match c.callee with
    | .builtin .len => match c.args.toList, c.argTypes.toList with
      | [x], [t] => lenK P t (ε x) k
      | _, _ => none
    | .builtin .cap => match c.args.toList, c.argTypes.toList with
      | [x], [t] => match P.underlying t, ε x with
        | some (.slice _), .v .nils => k (.v (.int .i64 0))
        | _, _ => none
      | _, _ => none
    | .builtin .min => match c.args.toList with
      | [x, y] => match ε x, ε y with
        | .v (.int kd a), .v (.int kd' b) => match decide (kd = kd') with | true => k (.v (.int kd (if b < a then b else a))) | false => none
        | _, _ => none
      | _ => none
    | .builtin .max => match c.args.toList with
      | [x, y] => match ε x, ε y with
        | .v (.int kd a), .v (.int kd' b) => match decide (kd = kd') with | true => k (.v (.int kd (if a < b then b else a))) | false => none
        | _, _ => none
      | _ => none
    | _ => none
  | _ => none

/-- May a row be read through a view that saw g elements? -/
def Row.seen (x : Row) (g : Nat) : Prop := x.clean ≤ g ∧ g * x.size ≤ x.cells.length
/-- Is the view the newest, and may the row be written? -/
def Row.now (x : Row) (g : Nat) : Prop := x.clean ≤ g ∧ g * x.size = x.cells.length ∧ x.ro = false
instance (x : Row) (g : Nat) : Decidable (x.seen g) := inferInstanceAs (Decidable (_ ∧ _))
instance (x : Row) (g : Nat) : Decidable (x.now g) := inferInstanceAs (Decidable (_ ∧ _))

def loadK (P : Program) (t : TypeId) (a : FV) (F : Fr) (h : Hp) (k : FV → Option ρ) : Option ρ :=
  match ty P t with
  | some q => match a with
    | .v (.ptr r g o) => (h.rows r).bind fun x => if x.seen g ∧ o < g * x.size ∧ o + q.2 ≤ g * x.size then partK q.1 q.2 x.cells o fun y => k (.v y) else none
    | .self d o => (F.vars d).bind fun cs => partK q.1 q.2 cs o fun y => k (.v y)
    | _ => none
  | none => none

/-- A bound of a slice expression: a number from 0 to 'top', 'dflt' where none is given. -/
def boundK (x : Option FV) (dflt top : Nat) (k : Nat → Option ρ) : Option ρ :=
  match x with
  | none => k dflt
  | some (.v (.int _ i)) => if 0 ≤ i ∧ i ≤ top then k i.toNat else none
  | _ => none
/-- x[lo:hi]: of a slice up to what its row had when it was seen. -/
def sliceK (P : Program) (t : TypeId) (x : FV) (lo hi : Option FV) (k : FV → Option ρ) : Option ρ :=
  match P.underlying t with
  | some (.slice e) => match ty P e with
    | some q => match x with
      | .v (.sl r g s o n) => match decide (s = q.2) with | true => boundK hi n (g - o) fun b => boundK lo 0 b fun a => k (.v (.sl r g s (o + a) (b - a))) | false => none
      | .v .nils => boundK hi 0 0 fun b => boundK lo 0 b fun _ => k (.v .nils)
      | _ => none
    | none => none
  | some .string => match x with
    | .v (.str s) => boundK hi s.size s.size fun b => boundK lo 0 b fun a => k (.v (.str (s.extract a b)))
    | _ => none
  | _ => none

def storeK (P : Program) (t : TypeId) (a : FV) (v : V) (F : Fr) (h : Hp) (k : Fr → Hp → Option ρ) : Option ρ :=
  match ty P t with
  | none => none
  | some q => match decide (v.isTup = false ∧ v.cells.length = q.2) with
  | true => match a with
    | .v (.ptr r g o) => (h.rows r).bind fun x => if x.now g ∧ o + v.cells.length ≤ x.cells.length then k F (h.put r { cells := splice x.cells o v.cells, size := x.size, bytes := x.bytes, clean := g, ro := x.ro }) else none
    | .self d o => (F.vars d).bind fun cs => if o + v.cells.length ≤ cs.length then k (F.setVar d (splice cs o v.cells)) h else none
    | _ => none
  | false => none

/-- The cells that a list shows, and how many elements (of 'size' cells) these are. -/
def sourceK (size : Nat) (F : Fr) (h : Hp) (x : FV) (k : List V → Nat → Option ρ) : Option ρ :=
  match x with
  | .lit d n => (F.vars d).bind fun cs => if cs.length = n * size then k cs n else none
  | .v .nils => k [] 0
  | .v (.sl r g s o n) => (h.rows r).bind fun x => if s = size ∧ x.seen g ∧ o + n ≤ g then k ((x.cells.drop (o * size)).take (n * size)) n else none
  | _ => none

def roomB : Nat := 140737488355328

/-- append(s, ..): beyond the row's end it grows (another view); within it, it writes. -/
def appendK (size bytes : Nat) (s : V) (news : List V) (n : Nat) (h : Hp) (k : V → Hp → Option ρ) : Option ρ :=
  match s with
  | .nils => if n = 0 then k .nils h else if n * bytes ≤ roomB ∧ n ≤ 4611686018427387904 then k (.sl h.next n size 0 n) (h.new { cells := news, size := size, bytes := bytes, clean := 0, ro := false }) else none
  | .sl r g s o m => (h.rows r).bind fun x =>
      if n = 0 then k (.sl r g s o m) h else
      if s = size ∧ x.bytes = bytes ∧ x.now g ∧ o + m ≤ g then
        if o + m = g then
          (if o = 0 ∧ (g + n) * bytes ≤ roomB ∧ g + n ≤ 4611686018427387904 then k (.sl r (g + n) s o (m + n)) (h.put r { cells := x.cells ++ news, size := x.size, bytes := x.bytes, clean := x.clean, ro := x.ro })
           else if (m + n) * bytes ≤ roomB ∧ m + n ≤ 4611686018427387904 then k (.sl h.next (m + n) s 0 (m + n)) ((h.del r).new { cells := x.cells.drop (o * size) ++ news, size := x.size, bytes := x.bytes, clean := 0, ro := false })
           else none)
        else if o + m + n ≤ g then k (.sl r g s o (m + n)) (h.put r { cells := splice x.cells ((o + m) * size) news, size := x.size, bytes := x.bytes, clean := g, ro := x.ro })
        else none
      else none
  | _ => none

def repl (n : Nat) (z : List V) : List V := match n with | 0 => [] | n + 1 => z ++ repl n z

/-- What is appended: so many zeros (append(s, make(..)...)), or the cells of a list. -/
def appendSourceK (P : Program) (t u e : TypeId) (size : Nat) (F : Fr) (x : FV) (h : Hp) (k : List V → Nat → Option ρ) : Option ρ :=
  match P.underlying u with
  | some (.int _) => match x with
    | .v (.int _ l) => if 0 ≤ l ∧ l ≤ 4611686018427387904 ∧ l * P.bytesOf e ≤ 281474976710656 then (match zeroCells P e with | some z => k (repl l.toNat z) l.toNat | none => none) else none
    | _ => none
  | _ => match decide (u = t) with | true => sourceK size F h x k | false => none

def copyK (size : Nat) (d : V) (src : List V) (n : Nat) (h : Hp) (k : V → Hp → Option ρ) : Option ρ :=
  match d with
  | .nils => k (.int .i64 0) h
  | .sl r g s o m => (h.rows r).bind fun x =>
      if s = size ∧ x.now g ∧ o + m ≤ g then k (.int .i64 (min n m : Nat)) (h.put r { cells := splice x.cells (o * size) (src.take (min n m * size)), size := x.size, bytes := x.bytes, clean := g, ro := x.ro })
      else none
  | _ => none

def amethod (P : Program) (t : TypeId) (v : V) (name : String) : Option (FuncId × V) :=
  match P.info? t with
  | some i => match i.methods.find? (·.name == name) with
    | some m => match m.func with
      | some fp => match afollow P m.path.toList t v with
        | some x => match P.underlying x.1, fp.2 with
          | some (.pointer _), true => some (fp.1, x.2)
          | some (.pointer _), false => none
          | some _, false => some (fp.1, x.2)
          | _, _ => none
        | none => none
      | none => none
    | none => none
  | none => none

/-- What is asked of a value by its type: a leaf; a struct of leaves; a tuple. -/
inductive Lf where | any | bool | int (k : IntKind)
inductive Sh1 where | one (l : Lf) | agg (ls : List Lf)
inductive Sh where | one (s : Sh1) | tup (l : List Sh1)
def leafK (l : Lf) (v : V) (k : V → Option ρ) : Option ρ :=
  match l with
  | .any => k v
  | .bool => match v with | .bool b => k (.bool b) | _ => none
  | .int kd => match v with | .int kd' n => (match decide (kd' = kd) with | true => k (.int kd n) | false => none) | _ => none
def leavesK : List Lf → List V → (List V → Option ρ) → Option ρ
  | [], cs, k => match cs with | [] => k [] | _ :: _ => none
  | l :: ls, cs, k => match cs with | [] => none | v :: vs => leafK l v fun v => leavesK ls vs fun vs => k (v :: vs)
def sh1K (s : Sh1) (v : V) (k : V → Option ρ) : Option ρ :=
  match s with
  | .one l => leafK l v k
  | .agg ls => match v with | .agg cs => leavesK ls cs fun cs => k (.agg cs) | _ => none
def sh1sK : List Sh1 → List V → (List V → Option ρ) → Option ρ
  | [], cs, k => match cs with | [] => k [] | _ :: _ => none
  | l :: ls, cs, k => match cs with | [] => none | v :: vs => sh1K l v fun v => sh1sK ls vs fun vs => k (v :: vs)
def shK (s : Sh) (v : V) (k : V → Option ρ) : Option ρ :=
  match s with
  | .one s => sh1K s v k
  | .tup l => match v with | .tup vs => sh1sK l vs fun vs => k (.tup vs) | _ => none
/-- The value is what it was; it is asked whether it has its type's form. -/
def tyF (s : Sh) (x : FV) (k : FV → Option ρ) : Option ρ := match x with | .v v => shK s v fun v => k (.v v) | x => k x

inductive EK where | val | look | own | act
/-- One of the operations of a region whose order is drawn: which it is; the loads that are to be done again behind it, the new variables no place in which may come out of it. -/
structure Ent where
  kind : EK
  i : Nat
  looks : List Nat
  vars : List Nat
/-- The program, and what is known of it ahead: which 'new' makes a row of the heap; what is live at a loop's head; the order in which a region that draws is walked. -/
structure Env where
  P : Program
  heapAt : Nat → Nat → Bool
  live : Nat → Nat → List Nat × List Nat
  sched : Nat → Nat → Option (List Ent)
  norm : Nat → Bool
  sh : TypeId → Sh

abbrev AFun := Nat → List V → Hp → Option (V × Hp)

def callK (P : Program) (C : AFun) (c : Call) (ε : Operand → FV) (h : Hp) (k : V → Hp → Option ρ) : Option ρ :=
  argsK ε c.args.toList fun args =>
  match c.callee with
  | .value f => match ε f with
    | .v (.fn (.func f) caps) => (C f (args ++ caps) h).bind fun r => k r.1 r.2
    | _ => none
  | .invoke recv name => match ε recv with
    | .v (.iface t v) => match amethod P t v name with
      | some fr => (C fr.1 (fr.2 :: args) h).bind fun r => k r.1 r.2
      | none => none
    | _ => none
  | .builtin _ => none

def hasSelf (d : Nat) : FV → Bool | .self e _ => e == d | .lit e _ => e == d | _ => false
def anySelf (d : Nat) : List FV → Bool | [] => false | x :: xs => match hasSelf d x with | true => true | false => anySelf d xs
/-- A variable of the frame's own: no slot (but its own) holds a place in the one that it replaces. -/
def newVarK (F : Fr) (d : Nat) (x : FV) (cs : List V) (k : Fr → Option ρ) : Option ρ :=
  match anySelf d (F.tmps.set d .bot) with
  | true => none
  | false => k ((F.setVar d cs).set d x)

/-- One operation. -/
def opK (E : Env) (C : AFun) (f : Nat) (o : Oper) (F : Fr) (h : Hp) (k : Fr → Hp → Option ρ) : Option ρ :=
  match o.op with
  | .alloc t => match o.dst with
    | some d => match zeroCells E.P t with
      | some z => match E.heapAt f d with
        | true => k (F.set d (.v (.ptr h.next 1 0))) (h.new { cells := z, size := z.length, bytes := E.P.bytesOf t, clean := 0, ro := false })
        | false => newVarK F d (.self d 0) z fun F => k F h
      | none => none
    | none => none
  | .box t x => match o.dst with
    | some d => asK (F.eval x) fun v => match decide (v.isTup = false ∧ v.cells.length = sizeOf E.P t) with
      | true => match E.heapAt f d with
        | true => k (F.set d (.v (.ptr h.next 1 0))) (h.new { cells := v.cells, size := v.cells.length, bytes := E.P.bytesOf t, clean := 0, ro := false })
        | false => newVarK F d (.self d 0) v.cells fun F => k F h
      | false => none
    | none => none
  | .buildSlice t n ps => match o.dst with
    | some d => match elemInfo E.P t with
      | some e => match decide (n * e.2.1 > 16777216) with
        | true => none
        | false => partsK F.eval ps.toList fun l => match zeroCells E.P e.1 with
          | some z => match fillAll (fun i => some (i * e.2.1, e.2.1)) (repl n z) l with
            | some cs => match E.heapAt f d with
              | true => k (F.set d (.v (.sl h.next n e.2.1 0 n))) (h.new { cells := cs, size := e.2.1, bytes := e.2.2, clean := 0, ro := false })
              | false => newVarK F d (.lit d n) cs fun F => k F h
            | none => none
          | none => none
      | none => none
    | none => none
  | .makeSlice t l c => match F.eval l, F.eval c with
    | .v (.int _ l), .v (.int _ c) => match elemInfo E.P t with
      | some e => match zeroCells E.P e.1 with
        | some z => if 0 ≤ l ∧ l ≤ c ∧ c * e.2.2 ≤ roomB ∧ c ≤ 4611686018427387904 then k (F.put o.dst (.v (.sl h.next l.toNat e.2.1 0 l.toNat))) (h.new { cells := repl l.toNat z, size := e.2.1, bytes := e.2.2, clean := 0, ro := false }) else none
        | none => none
      | none => none
    | _, _ => none
  | .load t a => loadK E.P t (F.eval a) F h fun x => tyF (E.sh o.type) x fun x => k (F.put o.dst x) h
  | .slice t x lo hi none => sliceK E.P t (F.eval x) (lo.map F.eval) (hi.map F.eval) fun x => k (F.put o.dst x) h
  | .store t a x => asK (F.eval x) fun v => storeK E.P t (F.eval a) v F h fun F h => k (F.put o.dst .bot) h
  | .call c => match c.callee with
    | .builtin .append => match c.args.toList, c.argTypes.toList with
      | [s, x], [t, u] => match elemInfo E.P t with
        | some e => asK (F.eval s) fun s => appendSourceK E.P t u e.1 e.2.1 F (F.eval x) h fun news n => appendK e.2.1 e.2.2 s news n h fun r h => k (F.put o.dst (.v r)) h
        | none => none
      | _, _ => none
    | .builtin .copy => match c.args.toList, c.argTypes.toList with
      | [d, x], [t, _] => match elemInfo E.P t with
        | some e => asK (F.eval d) fun d => sourceK e.2.1 F h (F.eval x) fun src n => copyK e.2.1 d src n h fun r h => k (F.put o.dst (.v r)) h
        | none => none
      | _, _ => none
    | .builtin _ => pureK E.P o.op F.eval fun x => tyF (E.sh o.type) x fun x => k (F.put o.dst x) h
    | _ => callK E.P C c F.eval h fun r h => tyF (E.sh o.type) (.v r) fun x => k (F.put o.dst x) h
  | op => pureK E.P op F.eval fun x => tyF (E.sh o.type) x fun x => k (F.put o.dst x) h

inductive Ex where | normal | exit (id : Nat) | ret

/-- A guard: is the operation wanted? What is known of the guard is written down. -/
def guardK (all : List Oper) (g : Option (Nat × Bool)) (F : Fr) (yes no : Fr → Option ρ) : Option ρ :=
  match g with
  | none => yes F
  | some (j, want) => match all[j]? with
    | some oj => match oj.dst with
      | some d => match F.get d with
        | .v (.bool b) => match b with
          | true => match want with | true => yes (F.set d (.v (.bool true))) | false => no (F.set d (.v (.bool true)))
          | false => match want with | true => no (F.set d (.v (.bool false))) | false => yes (F.set d (.v (.bool false)))
        | .v (.tup []) => no F
        | _ => none
      | none => none
    | none => none

/-- An operation behind its guard. -/
def stepK (E : Env) (C : AFun) (f : Nat) (all : List Oper) (o : Oper) (F : Fr) (h : Hp) (k : Fr → Hp → Option ρ) : Option ρ :=
  guardK all o.guard F (fun F => opK E C f o F h k) (fun F => k (F.put o.dst (.v (.tup []))) h)

/-- What a kernel is to have worked out before it goes on: the slots. -/
def forceFV (x : FV) (k : FV → Option ρ) : Option ρ := match x with | .bot => k .bot | .v v => k (.v v) | .self d o => k (.self d o) | .lit d n => k (.lit d n)
def forceL : List FV → (List FV → Option ρ) → Option ρ
  | [], k => k []
  | x :: l, k => forceFV x fun x => forceL l fun l => k (x :: l)
def forceF (F : Fr) (k : Fr → Option ρ) : Option ρ := forceL F.tmps fun l => k { tmps := l, vars := F.vars }

/-- The operations of a region, in the order of the text. -/
def opsK (E : Env) (C : AFun) (f : Nat) (all : List Oper) : List Oper → Fr → Hp → (Fr → Hp → Option ρ) → Option ρ
  | [], F, h, k => k F h
  | o :: rest, F, h, k => forceF F fun F => stepK E C f all o F h fun F h => opsK E C f all rest F h k

mutual
/-- Are they the same? (yes only if so) -/
def V.same : V → V → Bool
  | .bool a, .bool b => a == b
  | .int k a, .int l b => match decide (k = l) with | true => decide (a = b) | false => false
  | .nilp, .nilp => true
  | .ptr r g o, .ptr r' g' o' => match decide (r = r') with | true => (match decide (g = g') with | true => decide (o = o') | false => false) | false => false
  | .nils, .nils => true
  | .sl r g s o n, .sl r' g' s' o' n' => match decide (r = r') with
    | true => (match decide (g = g') with | true => (match decide (s = s') with | true => (match decide (o = o') with | true => decide (n = n') | false => false) | false => false) | false => false)
    | false => false
  | .nilf, .nilf => true
  | .niliface, .niliface => true
  | .iface t v, .iface t' v' => match decide (t = t') with | true => V.same v v' | false => false
  | .agg l, .agg l' => V.sames l l'
  | .tup l, .tup l' => V.sames l l'
  | _, _ => false
def V.sames : List V → List V → Bool
  | [], [] => true
  | a :: l, b :: m => match V.same a b with | true => V.sames l m | false => false
  | _, _ => false
end
def FV.same : FV → FV → Bool
  | .bot, .bot => true
  | .v a, .v b => V.same a b
  | _, _ => false

abbrev Looks := List (Nat × Oper × FV)
def isSelf : FV → Bool | .self _ _ => true | .lit _ _ => true | _ => false
def oldOK (F : Fr) (d : Option Nat) : Bool := match d with | some d => !isSelf (F.get d) | none => true
def Fr.getO (F : Fr) (d : Option Nat) : FV := match d with | some d => F.get d | none => .bot
def varsOK (x : FV) : List Nat → Bool | [] => true | d :: l => match hasSelf d x with | true => false | false => varsOK x l
def findLook (i : Nat) : Looks → Option (Oper × FV) | [] => none | (j, p) :: l => match decide (i = j) with | true => some p | false => findLook i l
def relookK (E : Env) (C : AFun) (f : Nat) (all : List Oper) (T : Looks) : List Nat → Fr → Hp → (Looks → Option ρ) → Option ρ
  | [], _, _, k => k []
  | i :: rest, F, h, k => match findLook i T with
    | some p => stepK E C f all p.1 F h fun F' _ => match FV.same (F'.getO p.1.dst) p.2 with | true => relookK E C f all T rest F h fun l => k ((i, p) :: l) | false => none
    | none => none
def drawK (E : Env) (C : AFun) (f : Nat) (all : List Oper) : List Ent → Looks → Fr → Hp → (Fr → Hp → Option ρ) → Option ρ
  | [], _, F, h, k => k F h
  | e :: rest, T, F, h, k => forceF F fun F => match all[e.i]? with
    | none => none
    | some o => match e.kind with
      | .val => match oldOK F o.dst with
        | true => stepK E C f all o F h fun F' h' => match varsOK (F'.getO o.dst) e.vars with | true => drawK E C f all rest T F' h' k | false => none
        | false => none
      | .look => match oldOK F o.dst with
        | true => stepK E C f all o F h fun F' h' => match varsOK (F'.getO o.dst) e.vars with | true => drawK E C f all rest ((e.i, o, F'.getO o.dst) :: T) F' h' k | false => none
        | false => none
      | .own => match o.dst with
        | none => none
        | some d => match anySelf d F.tmps with
          | true => none
          | false => match isSelf (F.get d) with
            | true => none
            | false => opK E C f o F h fun F' h' => drawK E C f all rest T F' h' k
      | .act => stepK E C f all o F h fun F' h' => match varsOK (F'.getO o.dst) e.vars with | true => relookK E C f all T e.looks F' h' fun T => drawK E C f all rest T F' h' k | false => none

def maskL (l : List Nat) : Nat → List FV → List FV
  | _, [] => []
  | i, x :: xs => (match l.contains i with | true => x | false => .bot) :: maskL l (i + 1) xs
def maskVars : List Nat → (Nat → Option (List V)) → Nat → Option (List V)
  | [], _ => fun _ => none
  | d :: l, v => fun i => match decide (i = d) with | true => v d | false => maskVars l v i
def Fr.mask (F : Fr) (l : List Nat × List Nat) : Fr := { tmps := maskL l.1 0 F.tmps, vars := maskVars l.2 F.vars }

def firstRegion : Code → Option Nat
  | .region id _ _ => some id
  | .seq a b => match firstRegion a with | some i => some i | none => firstRegion b
  | .cond _ a b => match firstRegion a with | some i => some i | none => firstRegion b
  | .block _ c | .loop c | .scope c => firstRegion c
  | _ => none

def loopK (body : Fr → Hp → (Ex → Fr → Hp → Option ρ) → Option ρ) (mask : Fr → Fr) : Nat → Fr → Hp → (Ex → Fr → Hp → Option ρ) → Option ρ
  | 0, _, _, _ => none
  | n + 1, F, h, k => body F h fun e F' h' => match e with | .normal => loopK body mask n (mask F') h' k | .exit i => k (.exit i) F' h' | .ret => k .ret F' h'

def codeK (E : Env) (C : AFun) (f n : Nat) : Code → Fr → Hp → (Ex → Fr → Hp → Option ρ) → Option ρ
  | .skip, F, h, k => k .normal F h
  | .label _, F, h, k => k .normal F h
  | .ret, F, h, k => k .ret F h
  | .exit id, F, h, k => k (.exit id) F h
  | .region id ops draw, F, h, k => match draw with
    | false => opsK E C f ops.toList ops.toList F h (k .normal)
    | true => match E.sched f id with
      | some s => drawK E C f ops.toList s [] F h (k .normal)
      | none => none
  | .seq a b, F, h, k => codeK E C f n a F h fun e F' h' => match e with | .normal => codeK E C f n b F' h' k | .exit i => k (.exit i) F' h' | .ret => k .ret F' h'
  | .cond c a b, F, h, k =>
    match c with
    | .tmp t => match F.get t with
      | .v (.bool x) => match x with
        | true => codeK E C f n a (F.set t (.v (.bool true))) h k
        | false => codeK E C f n b (F.set t (.v (.bool false))) h k
      | _ => none
    | .const (.bool x) => match x with
      | true => codeK E C f n a F h k
      | false => codeK E C f n b F h k
    | _ => none
  | .block id c, F, h, k => codeK E C f n c F h fun e F' h' => match e with | .exit i => (match decide (i = id) with | true => k .normal F' h' | false => k (.exit i) F' h') | .normal => k .normal F' h' | .ret => k .ret F' h'
  | .loop c, F, h, k => loopK (codeK E C f n c) (·.mask (E.live f ((firstRegion c).getD 0))) n (F.mask (E.live f ((firstRegion c).getD 0))) h k
  | .scope c, F, h, k => codeK E C f n c F h k
  | _, _, _, _ => none

def resultsK (P : Program) (F : Fr) (h : Hp) : List ResultVar → (List V → Option ρ) → Option ρ
  | [], k => k []
  | .tmp t :: rest, k => asK (F.get t) fun v => resultsK P F h rest fun l => k (v :: l)
  | .cell a t :: rest, k => loadK P t (F.get a) F h fun x => asK x fun v => resultsK P F h rest fun l => k (v :: l)

def oneOrTup : List V → V
  | [v] => v
  | l => .tup l
end

def bodyK (E : Env) (C : AFun) (f n : Nat) (fn : Func) (args : List V) (h : Hp) : Option (V × Hp) :=
  match fn.body with
  | none => none
  | some c => codeK E C f n c { tmps := args.map .v ++ List.replicate (fn.ntmps - args.length) .bot, vars := fun _ => none } h fun e F h' =>
      match e with
      | .exit _ => none
      | .normal => resultsK E.P F h' fn.results.toList fun l => some (oneOrTup l, h')
      | .ret => resultsK E.P F h' fn.results.toList fun l => some (oneOrTup l, h')

/-! What a kernel is to have worked out before it goes on: each is the identity. -/
section
variable {ρ : Type}
def forceNat (n : Nat) (k : Nat → Option ρ) : Option ρ := match n with | 0 => k 0 | n + 1 => k (n + 1)
def forceInt (n : Int) (k : Int → Option ρ) : Option ρ := match n with | .ofNat n => forceNat n fun n => k (.ofNat n) | .negSucc n => forceNat n fun n => k (.negSucc n)
def forceBool (b : Bool) (k : Bool → Option ρ) : Option ρ := match b with | true => k true | false => k false
mutual
def forceV : V → (V → Option ρ) → Option ρ
  | .bool b, k => forceBool b fun b => k (.bool b)
  | .int kd n, k => forceInt n fun n => k (.int kd n)
  | .ptr r g o, k => forceNat r fun r => forceNat g fun g => forceNat o fun o => k (.ptr r g o)
  | .sl r g s o n, k => forceNat r fun r => forceNat g fun g => forceNat s fun s => forceNat o fun o => forceNat n fun n => k (.sl r g s o n)
  | .iface t v, k => forceV v fun v => k (.iface t v)
  | .meth m v, k => forceV v fun v => k (.meth m v)
  | .fn f l, k => forceCells l fun l => k (.fn f l)
  | .agg l, k => forceCells l fun l => k (.agg l)
  | .tup l, k => forceCells l fun l => k (.tup l)
  | .str s, k => k (.str s)
  | .nilp, k => k .nilp
  | .nils, k => k .nils
  | .nilf, k => k .nilf
  | .niliface, k => k .niliface
def forceCells : List V → (List V → Option ρ) → Option ρ
  | [], k => k []
  | v :: l, k => forceV v fun v => forceCells l fun l => k (v :: l)
end
def forceRow (x : Option Row) (k : Option Row → Option ρ) : Option ρ :=
  match x with
  | none => k none
  | some x => forceCells x.cells fun cs => forceNat x.size fun size => forceNat x.bytes fun bytes => forceNat x.clean fun clean => forceBool x.ro fun ro => k (some { cells := cs, size := size, bytes := bytes, clean := clean, ro := ro })
def nthRow : List (Option Row) → Nat → Option Row | [], _ => none | a :: l, i => match i with | 0 => a | i + 1 => nthRow l i
def normGo (h : Hp) : Nat → List (Option Row) → (List (Option Row) → Option ρ) → Option ρ
  | 0, acc, k => k acc
  | n + 1, acc, k => forceRow (h.rows n) fun r => normGo h n (r :: acc) k
/-- The heap as a list of rows. -/
def normK (h : Hp) (k : Hp → Option ρ) : Option ρ := forceNat h.next fun n => normGo h n [] fun l => k { rows := nthRow l, next := n }
end

/-- A call, to a depth (and so many rounds of each loop) of n. -/
def ev (E : Env) : Nat → AFun
  | 0, _, _, _ => none
  | n + 1, f, args, h => match E.P.funcs[f]? with
    | some fn => match E.norm f with
      | true => forceCells args fun args => normK h fun h => bodyK E (ev E n) f n fn args h
      | false => bodyK E (ev E n) f n fn args h
    | none => none
end Go.Ev
