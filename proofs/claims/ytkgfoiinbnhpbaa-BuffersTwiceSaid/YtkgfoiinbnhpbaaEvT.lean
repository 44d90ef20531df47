/- A region whose order is drawn: what may come first may be taken first. -/
import Derived.Test.YtkgfoiinbnhpbaaEvS
namespace Go.Ev
open Go Go.RowKit

/-- What must still hold behind every operation that does not wait for it: that a load yields what it yielded; that no place in a new variable has come to a slot. -/
inductive Pend where
  | look (i : Nat) (o : Oper) (v : FV)
  | var (i d : Nat)
def Pend.idx : Pend → Nat | .look i _ _ => i | .var i _ => i

section
variable (E : Env) (C : AFun) (f : Nat) (ops : Array Oper)
abbrev one (F : Fr) (h : Hp) : Option (Fr × Hp) := some (F, h)
def Chk (p : Pend) (oj : Oper) (F : Fr) (h : Hp) : Prop :=
  match p with
  | .look _ o v => stepK E C f ops.toList o F h one = some (F.put o.dst v, h)
  | .var _ d => ∀ t, oj.dst = some t → hasSelf d (F.get t) = false

/-- 'A': which operations are no movers; 'W': which wait for which. A load's yield is asked for until such an operation that waits for it has come. -/
def Asked (A : Nat → Bool) (W : Nat → Nat → Bool) (p : Pend) (L : Array Bool) (j : Nat) : Prop :=
  match p with
  | .look i _ _ => (A j = true → W j i = false) ∧ ∀ l, L.getD l false = true → A l = true → W l i = false
  | .var i _ => W j i = false

/-- Whichever order is drawn, the region comes to its end, 'Fin' holds there, and what is pending is kept. -/
def AnyT (A : Nat → Bool) (W : Nat → Nat → Bool) (T : List Pend) (Fin : Fr → Hp → Prop) : Nat → Array Bool → Fr → Hp → Prop
  | 0, L, F, h => Region.ready .any ops L = [] ∧ Fin F h
  | n + 1, L, F, h => (Region.ready .any ops L = [] → Fin F h) ∧ ∀ j ∈ Region.ready .any ops L, ∃ oj F' h', ops[j]? = some oj ∧ stepK E C f ops.toList oj F h one = some (F', h') ∧
      (∀ p ∈ T, Asked A W p L j → Chk E C f ops p oj F' h') ∧ AnyT A W T Fin n (L.setIfInBounds j true) F' h'
end

section
variable {E : Env} {C : AFun} {f : Nat} {ops : Array Oper} {W : Nat → Nat → Bool} {T : List Pend} {Fin : Fr → Hp → Prop} {F G : Fr} {h : Hp} {o : Oper}

theorem get_put_ne {d : Option Nat} {x : FV} {t : Nat} (hne : d ≠ some t) : (F.put d x).get t = F.get t := by
  cases d with
  | none => rfl
  | some d =>
    show (F.set d x).get t = _
    rw [get_set, if_neg]
    rintro ⟨rfl, _⟩
    exact hne rfl
theorem eval_put_ne {d : Option Nat} {x : FV} {y : Operand} (hne : ∀ t, d = some t → y ≠ .tmp t) : (F.put d x).eval y = F.eval y := by
  cases y with
  | tmp t => exact get_put_ne fun e => hne t e rfl
  | _ => rfl
theorem wants_congr {g : Option (Nat × Bool)} (hg : ∀ j w t, g = some (j, w) → (ops[j]?).bind (·.dst) = some t → F.get t = G.get t) : wants ops.toList g F = wants ops.toList g G := by
  unfold wants
  cases g with
  | none => rfl
  | some p =>
    obtain ⟨j, w⟩ := p
    simp only [Array.getElem?_toList]
    cases ho : ops[j]? with
    | none => rfl
    | some oj =>
      cases hd : oj.dst with
      | none => simp [hd]
      | some d =>
        have := hg j w d rfl (by simp [ho, hd])
        simp [hd, this]
/-- A slot at which the operation does not look. -/
theorem agree_put {d : Option Nat} {x : FV} (hne : ∀ t, d = some t → t ∉ o.looksAt ops) : AgreeE (F.put d x) F ops.toList o := by
  refine ⟨fun y hy => eval_put_ne fun t ht e => hne t ht ?_, wants_congr fun j w t hg ht => get_put_ne fun e => hne t e ?_⟩
  · subst e
    unfold Oper.looksAt
    exact List.mem_append_left _ (List.mem_filterMap.2 ⟨.tmp t, by simpa using hy, rfl⟩)
  · unfold Oper.looksAt
    rw [hg]
    exact List.mem_append_right _ (by simp [ht])
theorem AgreeE.symm {all : List Oper} (ha : AgreeE F G all o) : AgreeE G F all o := ⟨fun x hx => (ha.1 x hx).symm, ha.2.symm⟩

theorem put_comm {d d' : Option Nat} {x y : FV} (hne : ∀ t, d = some t → d' ≠ some t) : (F.put d x).put d' y = (F.put d' y).put d x := by
  cases d with
  | none => rfl
  | some d => cases d' with
    | none => rfl
    | some d' =>
      have : d ≠ d' := fun e => hne d rfl (e ▸ rfl)
      simp only [Fr.put, Fr.set, List.set_comm _ _ this]
theorem upd_put {d : Option Nat} {x : FV} {vu : Option (Nat × List V)} : (F.put d x).upd vu = (F.upd vu).put d x := by
  cases vu <;> cases d <;> rfl

theorem anySelf_put {d t : Nat} {l : List FV} {x : FV} (hx : ∀ y, l[t]? = some y → hasSelf d y = false) (hs : anySelf d (l.set t x) = false) : anySelf d l = false := by
  have hmem := anySelf_spec hs
  have : ∀ {m : List FV}, (∀ y ∈ m, hasSelf d y = false) → anySelf d m = false := by
    intro m
    induction m with
    | nil => intro _; rfl
    | cons y m ih => intro hm; simp only [anySelf, hm y (by simp)]; exact ih fun z hz => hm z (by simp [hz])
  refine this fun y hy => ?_
  obtain ⟨i, hi⟩ := List.getElem?_of_mem hy
  by_cases e : i = t
  · subst e; exact hx y hi
  · exact hmem y (List.mem_of_getElem? (i := i) (by rw [List.getElem?_set, if_neg (fun h => e h.symm)]; exact hi))
theorem anySelf_of {d : Nat} {m : List FV} (hm : ∀ y ∈ m, hasSelf d y = false) : anySelf d m = false := by
  induction m with
  | nil => rfl
  | cons y m ih => simp only [anySelf, hm y (by simp)]; exact ih fun z hz => hm z (by simp [hz])
theorem hasSelf_not {d : Nat} {x : FV} (h : isSelf x = false) : hasSelf d x = false := by
  cases x <;> simp_all [isSelf, hasSelf]

/-- An operation, over a slot at which it does not look: it goes as well without that slot's value. -/
theorem step_under {oi oj : Oper} {v : FV} {F' : Fr} {h' : Hp} (hap : oi.apart ops oj = true) (hold : ∀ d, oi.dst = some d → isSelf (F.get d) = false)
    (hk : stepK E C f ops.toList oj (F.put oi.dst v) h one = some (F', h')) :
    ∃ F1, stepK E C f ops.toList oj F h one = some (F1, h') ∧ F' = F1.put oi.dst v ∧ (∀ t, oi.dst = some t → F1.get t = F.get t) ∧
      (∃ vu x, F1 = (F.upd vu).put oj.dst x) := by
  obtain ⟨h1, h2, h3⟩ := Oper.apart_spec hap
  have ha : AgreeE (F.put oi.dst v) F ops.toList oj := agree_put h1
  have h2' : ∀ t, oj.dst = some t → oi.dst ≠ some t := fun t ht e => h2 t e ht
  by_cases hn : ownOp E f oj = true
  · rcases sown_loc hn hk with ⟨d, x, cs, hd, hx, hs, hk, hall⟩ | ⟨hk, hall⟩
    · have hne : oi.dst ≠ some d := h2' d hd
      have hs' : anySelf d (F.tmps.set d .bot) = false := by
        cases hi : oi.dst with
        | none => rw [hi] at hs; exact hs
        | some e =>
          have hed : e ≠ d := fun h => hne (by rw [hi, h])
          rw [hi] at hs
          refine anySelf_put (t := e) (x := v) (fun y hy => ?_) (by rw [List.set_comm _ _ (Ne.symm hed)]; exact hs)
          rw [List.getElem?_set, if_neg (Ne.symm hed)] at hy
          have := hold e hi
          rw [show F.get e = y by simp [Fr.get, List.getD_eq_getElem?_getD, hy]] at this
          exact hasSelf_not this
      have hF : F' = (((F.put oi.dst v).setVar d cs).set d x) ∧ h' = h := by cases hk; exact ⟨rfl, rfl⟩
      refine ⟨(F.setVar d cs).set d x, by rw [hF.2]; exact hall F h one ha hs', ?_, ?_, some (d, cs), x, by rw [hd]; rfl⟩
      · rw [hF.1]
        have : (F.put oi.dst v).setVar d cs = (F.setVar d cs).put oi.dst v := by cases oi.dst <;> rfl
        rw [this]
        exact put_comm (d := oi.dst) (d' := some d) (fun t ht e => hne (by rw [ht, e]))
      · intro t ht
        exact get_put_ne (F := F.setVar d cs) (d := some d) (fun e => hne (by rw [ht, ← e]))
    · have hF : F' = (F.put oi.dst v).put oj.dst (.v (.tup [])) ∧ h' = h := by cases hk; exact ⟨rfl, rfl⟩
      refine ⟨F.put oj.dst (.v (.tup [])), by rw [hF.2]; exact hall F h one ha, ?_, fun t ht => get_put_ne fun e => h2' t e ht, none, _, rfl⟩
      rw [hF.1, put_comm fun t ht => h2 t ht]
  · obtain ⟨vu, x, h'', hk, _, hall⟩ := sop_loc (by simpa using hn) ha (fun y _ e _ => by cases oi.dst <;> rfl) hk
    have hF : F' = ((F.put oi.dst v).upd vu).put oj.dst x ∧ h' = h'' := by cases hk; exact ⟨rfl, rfl⟩
    refine ⟨(F.upd vu).put oj.dst x, by rw [hF.2]; exact hall one, ?_, fun t ht => ?_, vu, x, rfl⟩
    · rw [hF.1, upd_put, put_comm fun t ht => h2 t ht]
    · rw [get_put_ne fun e => h2' t e ht]
      cases vu <;> rfl

/-- No place in 'd' is in a slot: an operation that does not look at slot d goes as well before the variable is made. -/
theorem step_under_own {oi oj : Oper} {d : Nat} {cs : List V} {z : FV} {F' : Fr} {h' : Hp} (hap : oi.apart ops oj = true) (hd : oi.dst = some d) (hno : anySelf d F.tmps = false) (hold : isSelf (F.get d) = false)
    (hk : stepK E C f ops.toList oj ((F.setVar d cs).set d z) h one = some (F', h')) :
    ∃ F1, stepK E C f ops.toList oj F h one = some (F1, h') ∧ F' = (F1.setVar d cs).set d z ∧ F1.get d = F.get d ∧ (∃ vu x, F1 = (F.upd vu).put oj.dst x) := by
  obtain ⟨h1, h2, h3⟩ := Oper.apart_spec hap
  have hdj : oj.dst ≠ some d := h2 d hd
  have ha : AgreeE ((F.setVar d cs).set d z) F ops.toList oj := agree_put (F := F.setVar d cs) (d := some d) (fun t ht => by cases ht; exact h1 d hd)
  have hnos : ∀ t, hasSelf d (F.get t) = false := fun t => by
    unfold Fr.get
    rw [List.getD_eq_getElem?_getD]
    cases ht : F.tmps[t]? with
    | none => rfl
    | some y => exact anySelf_spec hno y (List.mem_of_getElem? ht)
  have hopn : ∀ y ∈ oj.op.operands, hasSelf d (F.eval y) = false := fun y hy => by
    cases y with
    | tmp t => exact hnos t
    | const c => simp only [Fr.eval]; unfold ofConst; split <;> rfl
    | func g => rfl
    | global g => rfl
  by_cases hn : ownOp E f oj = true
  · rcases sown_loc hn hk with ⟨e, x, cs', he, hx, hs, hk, hall⟩ | ⟨hk, hall⟩
    · have hed : e ≠ d := fun h => hdj (by rw [he, h])
      have hs' : anySelf e (F.tmps.set e .bot) = false := by
        refine anySelf_put (t := d) (x := z) (fun y hy => ?_) (by rw [List.set_comm _ _ hed]; exact hs)
        rw [List.getElem?_set, if_neg hed] at hy
        rw [show F.get d = y by simp [Fr.get, List.getD_eq_getElem?_getD, hy]] at hold
        exact hasSelf_not hold
      have hF : F' = ((((F.setVar d cs).set d z).setVar e cs').set e x) ∧ h' = h := by cases hk; exact ⟨rfl, rfl⟩
      refine ⟨(F.setVar e cs').set e x, by rw [hF.2]; exact hall F h one ha hs', ?_, ?_, some (e, cs'), x, by rw [he]; rfl⟩
      · rw [hF.1]
        simp only [Fr.setVar, Fr.set, List.set_comm _ _ (Ne.symm hed), Fr.mk.injEq, true_and]
        funext i
        by_cases h1 : i = e
        · subst h1; simp [hed]
        · simp [h1]
      · exact get_put_ne (F := F.setVar e cs') (d := some e) (fun h => hed (by cases h; rfl))
    · have hF : F' = ((F.setVar d cs).set d z).put oj.dst (.v (.tup [])) ∧ h' = h := by cases hk; exact ⟨rfl, rfl⟩
      refine ⟨F.put oj.dst (.v (.tup [])), by rw [hF.2]; exact hall F h one ha, ?_, get_put_ne hdj, none, _, rfl⟩
      rw [hF.1]
      have := put_comm (F := F.setVar d cs) (d := some d) (d' := oj.dst) (x := z) (y := .v (.tup [])) (fun t ht e => by cases ht; exact hdj e)
      refine Eq.trans this ?_
      cases oj.dst <;> rfl
  · obtain ⟨vu, x, h'', hk, hvu, hall⟩ := sop_loc (by simpa using hn) ha (fun y hy e he => by
      rw [ha.1 y hy] at he
      show (if e = d then some cs else F.vars e) = F.vars e
      rw [if_neg]
      rintro rfl
      rw [hopn y hy] at he
      cases he) hk
    have hF : F' = (((F.setVar d cs).set d z).upd vu).put oj.dst x ∧ h' = h'' := by cases hk; exact ⟨rfl, rfl⟩
    refine ⟨(F.upd vu).put oj.dst x, by rw [hF.2]; exact hall one, ?_, ?_, vu, x, rfl⟩
    · rw [hF.1]
      have e1 : ((F.setVar d cs).set d z).upd vu = ((F.upd vu).setVar d cs).set d z := by
        cases vu with
        | none => rfl
        | some p =>
          obtain ⟨e, cs'⟩ := p
          obtain ⟨y, hy, hye⟩ := hvu e cs' rfl
          rw [ha.1 y hy] at hye
          have hed : e ≠ d := by rintro rfl; rw [hopn y hy] at hye; cases hye
          simp only [Fr.upd, Fr.setVar, Fr.set, Fr.mk.injEq, true_and]
          funext i
          by_cases h1 : i = e
          · subst h1; simp [hed]
          · simp [h1]
      rw [e1]
      have := put_comm (F := (F.upd vu).setVar d cs) (d := some d) (d' := oj.dst) (x := z) (y := x) (fun t ht e => by cases ht; exact hdj e)
      refine Eq.trans this ?_
      cases oj.dst <;> rfl
    · rw [get_put_ne hdj]
      cases vu <;> rfl
end
end Go.Ev
