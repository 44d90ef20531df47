/- A region whose order is drawn: the evaluator's walk is right for every order. -/
import Derived.Test.YtkgfoiinbnhpbaaEvV
namespace Go.Ev
open Go Go.RowKit

/-- Masks of what each operation waits for: bit i of number j. -/
def maskOf (ms : List Nat) (j : Nat) (o : Oper) : Nat :=
  o.after.toList.foldl (fun m e => match Region.binds .any e && decide (e.on < j) with | true => m ||| (1 <<< e.on) ||| ms.getD e.on 0 | false => m) 0
def masksGo (ms : List Nat) : Nat → List Oper → List Nat
  | _, [] => ms
  | j, o :: l => masksGo (ms ++ [maskOf ms j o]) (j + 1) l
def masksOf (ops : List Oper) : List Nat := masksGo [] 0 ops
def waitsM (ms : List Nat) (j i : Nat) : Bool := (ms.getD j 0).testBit i
def masksOK (ops : Array Oper) (ms : List Nat) : Bool :=
  ms.length == ops.size && (List.range ops.size).all fun j => match ops[j]? with | some o => ms.getD j 0 == maskOf ms j o | none => false

theorem testBit_maskOf {ms : List Nat} {j i : Nat} {o : Oper} (h : (maskOf ms j o).testBit i = true) :
    ∃ e ∈ o.after, Region.binds .any e = true ∧ e.on < j ∧ (e.on = i ∨ waitsM ms e.on i = true) := by
  have key : ∀ (l : List Edge) (m : Nat), (l.foldl (fun m e => match Region.binds .any e && decide (e.on < j) with | true => m ||| (1 <<< e.on) ||| ms.getD e.on 0 | false => m) m).testBit i = true →
      m.testBit i = true ∨ ∃ e ∈ l, Region.binds .any e = true ∧ e.on < j ∧ (e.on = i ∨ waitsM ms e.on i = true) := by
    intro l
    induction l with
    | nil => intro m h; exact .inl h
    | cons e l ih =>
      intro m h
      rw [List.foldl_cons] at h
      rcases ih _ h with h1 | ⟨e', he', h1⟩
      · split at h1
        · rename_i hc
          simp only [Bool.and_eq_true, decide_eq_true_eq] at hc
          rw [Nat.testBit_or, Nat.testBit_or, Bool.or_eq_true, Bool.or_eq_true] at h1
          rcases h1 with (h1 | h1) | h1
          · exact .inl h1
          · refine .inr ⟨e, by simp, hc.1, hc.2, .inl ?_⟩
            rw [Nat.one_shiftLeft, Nat.testBit_two_pow] at h1
            exact of_decide_eq_true h1
          · exact .inr ⟨e, by simp, hc.1, hc.2, .inr h1⟩
        · exact .inl h1
      · exact .inr ⟨e', by simp [he'], h1⟩
  rcases key _ _ h with h1 | ⟨e, he, h1⟩
  · simp at h1
  · exact ⟨e, by simpa using he, h1⟩

theorem masksOK_spec {ops : Array Oper} {ms : List Nat} (h : masksOK ops ms = true) : WOK ops (waitsM ms) := by
  simp only [masksOK, Bool.and_eq_true, beq_iff_eq, List.all_eq_true, List.mem_range] at h
  obtain ⟨hl, hall⟩ := h
  intro j i hw
  by_cases hj : j < ops.size
  · have := hall j hj
    rw [Array.getElem?_eq_getElem hj] at this
    simp only [beq_iff_eq] at this
    refine ⟨ops[j], Array.getElem?_eq_getElem hj, testBit_maskOf ?_⟩
    rw [← this]
    exact hw
  · simp [waitsM, List.getD_eq_getElem?_getD, List.getElem?_eq_none (by omega : ms.length ≤ j)] at hw

def freesB (ops : Array Oper) (m : Nat) (d : Option Nat) : Bool :=
  match ops[m]?, d with
  | some o, some t => !(o.looksAt ops).contains t
  | some _, none => true
  | none, _ => false
def isAct : EK → Bool | .act => true | _ => false
def schedGo (E : Env) (f : Nat) (ops : Array Oper) (A : Nat → Bool) (W : Nat → Nat → Bool) : List Ent → Array Bool → List Nat → List (Nat × Nat) → Bool
  | [], L, _, _ => (Region.ready .any ops L).isEmpty
  | e :: rest, L, lk, vs => match ops[e.i]? with
    | none => false
    | some o => (vs.all fun v => W e.i v.1 || e.vars.contains v.2) && match e.kind with
      | .val => !A e.i && pureOp o && (Region.ready .any ops L).contains e.i && Region.free .any ops L e.i && (lk.all fun m => freesB ops m o.dst) && schedGo E f ops A W rest (L.setIfInBounds e.i true) lk vs
      | .look => !A e.i && lookOp o && (Region.ready .any ops L).contains e.i && Region.free .any ops L e.i && (lk.all fun m => freesB ops m o.dst) && freesB ops e.i o.dst && schedGo E f ops A W rest (L.setIfInBounds e.i true) (e.i :: lk) vs
      | .own => lk.isEmpty && ownOp E f o && o.guard.isNone && (Region.ready .any ops L).contains e.i && Region.free .any ops L e.i && match o.dst with
        | some d => (vs.all fun v => v.2 != d) && schedGo E f ops A W rest (L.setIfInBounds e.i true) [] ((e.i, d) :: vs)
        | none => false
      | .act => A e.i && decide (Region.ready .any ops L = [e.i]) && (lk.all fun m => W e.i m || e.looks.contains m) && schedGo E f ops A W rest (L.setIfInBounds e.i true) e.looks vs
/-- Is the order right for the region? -/
def schedB (E : Env) (f : Nat) (ops : Array Oper) (s : List Ent) : Bool :=
  let ms := masksOf ops.toList
  masksOK ops ms && decide (s.length = ops.size) && schedGo E f ops (fun i => s.any fun e => isAct e.kind && e.i == i) (waitsM ms) s (Array.replicate ops.size false) [] []

mutual
theorem V.same_eq : ∀ (x y : V), V.same x y = true → x = y
  | .bool a, y, h => by cases y <;> simp_all [V.same]
  | .int k a, y, h => by cases y <;> simp only [V.same] at h <;> first | (cases h; done) | (split at h <;> simp_all)
  | .str s, y, h => by cases y <;> simp [V.same] at h
  | .nilp, y, h => by cases y <;> simp_all [V.same]
  | .ptr r g o, y, h => by
    cases y <;> simp only [V.same] at h <;> first | (cases h; done) | skip
    repeat' (split at h)
    all_goals simp_all
  | .nils, y, h => by cases y <;> simp_all [V.same]
  | .sl r g s o n, y, h => by
    cases y <;> simp only [V.same] at h <;> first | (cases h; done) | skip
    repeat' (split at h)
    all_goals simp_all
  | .fn _ _, y, h => by cases y <;> simp [V.same] at h
  | .nilf, y, h => by cases y <;> simp_all [V.same]
  | .niliface, y, h => by cases y <;> simp_all [V.same]
  | .iface t v, y, h => by
    cases y <;> simp only [V.same] at h <;> first | (cases h; done) | skip
    split at h
    · rename_i hd
      rw [of_decide_eq_true hd, V.same_eq _ _ h]
    · cases h
  | .agg l, y, h => by
    cases y <;> simp only [V.same] at h <;> first | (cases h; done) | skip
    rw [V.sames_eq _ _ h]
  | .tup l, y, h => by
    cases y <;> simp only [V.same] at h <;> first | (cases h; done) | skip
    rw [V.sames_eq _ _ h]
theorem V.sames_eq : ∀ (x y : List V), V.sames x y = true → x = y
  | [], y, h => by cases y <;> simp_all [V.sames]
  | a :: l, y, h => by
    cases y <;> simp only [V.sames] at h <;> first | (cases h; done) | skip
    split at h
    · rename_i hs
      rw [V.same_eq _ _ hs, V.sames_eq _ _ h]
    · cases h
end
theorem FV.same_eq {x y : FV} (h : FV.same x y = true) : x = y := by
  cases x <;> cases y <;> simp [FV.same] at h ⊢
  exact V.same_eq _ _ h
end Go.Ev
