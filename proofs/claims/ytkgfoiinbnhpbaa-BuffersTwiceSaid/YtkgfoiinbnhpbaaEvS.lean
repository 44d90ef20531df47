/- One step of a region: an operation behind its guard. -/
import Derived.Test.YtkgfoiinbnhpbaaEvR
namespace Go.Ev
open Go Go.RowKit

section
variable {E : Env} {C : AFun} {f : Nat} {o : Oper} {F G : Fr} {h : Hp} {ρ : Type} {r : ρ} {k : Fr → Hp → Option ρ} {all : List Oper}

theorem own_loc (hn : ownOp E f o = true) (hk : opK E C f o F h k = some r) :
    ∃ d x cs, o.dst = some d ∧ (x = .self d 0 ∨ ∃ n, x = .lit d n) ∧ anySelf d (F.tmps.set d .bot) = false ∧ k ((F.setVar d cs).set d x) h = some r ∧
      ∀ {σ : Type} (G : Fr) (h' : Hp) (k' : Fr → Hp → Option σ), (∀ x ∈ o.op.operands, F.eval x = G.eval x) → anySelf d (G.tmps.set d .bot) = false → opK E C f o G h' k' = k' ((G.setVar d cs).set d x) h' := by
  obtain ⟨dst, op, ty, pos, after, guard⟩ := o
  have new : ∀ {d : Nat} {x : FV} {cs : List V}, newVarK F d x cs (fun F => k F h) = some r → anySelf d (F.tmps.set d .bot) = false ∧ k ((F.setVar d cs).set d x) h = some r := by
    intro d x cs hk
    unfold newVarK at hk
    split at hk
    · cases hk
    · rename_i hs; exact ⟨hs, hk⟩
  cases op
  case alloc t =>
    cases dst with
    | none => cases hk
    | some d =>
      have hh : E.heapAt f d = false := by simpa [ownOp] using hn
      simp only [opK, hh] at hk ⊢
      split at hk
      · rename_i z hz
        obtain ⟨h1, h2⟩ := new hk
        exact ⟨d, _, _, rfl, .inl rfl, h1, h2, fun G h' k' _ hs => by simp only [newVarK, hs]⟩
      · cases hk
  case box t x =>
    cases dst with
    | none => cases hk
    | some d =>
      have hh : E.heapAt f d = false := by simpa [ownOp] using hn
      simp only [opK, hh] at hk ⊢
      obtain ⟨v, hk, hv⟩ := asK_par hk
      simp only at hk
      split at hk
      · rename_i hd
        obtain ⟨h1, h2⟩ := new hk
        refine ⟨d, _, _, rfl, .inl rfl, h1, h2, fun G h' k' he hs => ?_⟩
        rw [← he x (by simp [Op.operands])]
        exact (hv _).trans (by simp only [hd, newVarK, hs])
      · cases hk
  case buildSlice t n ps =>
    cases dst with
    | none => cases hk
    | some d =>
      have hh : E.heapAt f d = false := by simpa [ownOp] using hn
      simp only [opK, hh] at hk ⊢
      split at hk
      · rename_i e he
        split at hk
        · cases hk
        · rename_i hb
          obtain ⟨l, hk, hl⟩ := partsK_par hk
          split at hk
          · rename_i z hz
            simp only at hk
            split at hk
            · rename_i cs hcs
              obtain ⟨h1, h2⟩ := new hk
              refine ⟨d, _, _, rfl, .inr ⟨_, rfl⟩, h1, h2, fun G h' k' he hs => ?_⟩
              rw [← partsK_congr (ε := F.eval) fun p hp => (he p.2 (by simp [Op.operands]; exact ⟨p.1, by simpa using hp⟩))]
              exact (hl _).trans (by simp only [hz, hcs, newVarK, hs])
            · cases hk
          · cases hk
      · cases hk
  all_goals (simp [ownOp] at hn)

/-- Is it wanted? -/
def wants (all : List Oper) (g : Option (Nat × Bool)) (F : Fr) : Option Bool :=
  match g with
  | none => some true
  | some (j, want) => match all[j]? with
    | some oj => match oj.dst with
      | some d => match F.get d with
        | .v (.bool b) => some (b == want)
        | .v (.tup []) => some false
        | _ => none
      | none => none
    | none => none

theorem set_same {d : Nat} (hne : F.get d ≠ .bot) : F.set d (F.get d) = F := by
  have hl : d < F.tmps.length := by
    by_cases h : d < F.tmps.length
    · exact h
    · exact absurd (by simp [Fr.get, List.getD_eq_getElem?_getD, List.getElem?_eq_none (by omega : F.tmps.length ≤ d)]) hne
  cases F with
  | mk tmps vars =>
    simp only [Fr.set, Fr.get, Fr.mk.injEq, and_true] at *
    apply List.ext_getElem? 
    intro i
    rw [List.getElem?_set]
    split
    · rename_i e; subst e; simp [hl, List.getD_eq_getElem?_getD]
    · rfl

theorem guardK_eq {g : Option (Nat × Bool)} {yes no : Fr → Option ρ} : guardK all g F yes no = (wants all g F).bind fun b => bif b then yes F else no F := by
  unfold guardK wants
  cases g with
  | none => rfl
  | some p =>
    obtain ⟨j, want⟩ := p
    simp only
    split
    · split
      · rename_i d hd
        have hb : ∀ b, F.get d = .v (.bool b) → F.set d (.v (.bool b)) = F := fun b hb => by
          rw [← hb]; exact set_same (by rw [hb]; simp)
        split
        · rename_i b hg
          have := hb b hg
          cases b <;> cases want <;> simp [*]
        · simp [*]
        · simp only [*]
          rfl
      · simp [*]
    · simp [*]

theorem stepK_some (hk : stepK E C f all o F h k = some r) : (wants all o.guard F = some true ∧ opK E C f o F h k = some r) ∨ (wants all o.guard F = some false ∧ k (F.put o.dst (.v (.tup []))) h = some r) := by
  unfold stepK at hk
  rw [guardK_eq] at hk
  cases hw : wants all o.guard F with
  | none => simp [hw] at hk
  | some b =>
    cases b
    · exact .inr ⟨rfl, by simpa [hw] using hk⟩
    · exact .inl ⟨rfl, by simpa [hw] using hk⟩
theorem stepK_yes (hw : wants all o.guard F = some true) : stepK E C f all o F h k = opK E C f o F h k := by
  unfold stepK
  rw [guardK_eq, hw]
  rfl
theorem stepK_no (hw : wants all o.guard F = some false) : stepK E C f all o F h k = k (F.put o.dst (.v (.tup []))) h := by
  unfold stepK
  rw [guardK_eq, hw]
  rfl

/-- Two frames that agree where an operation and its guard look. -/
def AgreeE (F G : Fr) (all : List Oper) (o : Oper) : Prop := (∀ x ∈ o.op.operands, F.eval x = G.eval x) ∧ wants all o.guard F = wants all o.guard G

theorem spure_loc (hp : pureOp o = true) (ha : AgreeE F G all o) (hk : stepK E C f all o F h k = some r) :
    ∃ x, k (F.put o.dst x) h = some r ∧ ∀ {σ : Type} (h' : Hp) (k' : Fr → Hp → Option σ), stepK E C f all o G h' k' = k' (G.put o.dst x) h' := by
  rcases stepK_some hk with ⟨hw, hk⟩ | ⟨hw, hk⟩
  · obtain ⟨x, hk, hx⟩ := pure_loc hp ha.1 hk
    exact ⟨x, hk, fun h' k' => (stepK_yes (ha.2 ▸ hw)).trans (hx h' k')⟩
  · exact ⟨_, hk, fun h' k' => stepK_no (ha.2 ▸ hw)⟩

theorem slook_loc (hl : lookOp o = true) (ha : AgreeE F G all o) (hs : ∀ x ∈ o.op.operands, Same F G (F.eval x)) (hk : stepK E C f all o F h k = some r) :
    ∃ x, k (F.put o.dst x) h = some r ∧ ∀ {σ : Type} (k' : Fr → Hp → Option σ), stepK E C f all o G h k' = k' (G.put o.dst x) h := by
  rcases stepK_some hk with ⟨hw, hk⟩ | ⟨hw, hk⟩
  · obtain ⟨x, hk, hx⟩ := look_loc hl (fun x hx => ⟨ha.1 x hx, hs x hx⟩) hk
    exact ⟨x, hk, fun k' => (stepK_yes (ha.2 ▸ hw)).trans (hx k')⟩
  · exact ⟨_, hk, fun k' => stepK_no (ha.2 ▸ hw)⟩

theorem sop_loc (hn : ownOp E f o = false) (ha : AgreeE F G all o) (hs : ∀ x ∈ o.op.operands, Same F G (F.eval x)) (hk : stepK E C f all o F h k = some r) :
    ∃ vu x h', k ((F.upd vu).put o.dst x) h' = some r ∧ (∀ e cs, vu = some (e, cs) → ∃ y ∈ o.op.operands, hasSelf e (F.eval y) = true) ∧
      ∀ {σ : Type} (k' : Fr → Hp → Option σ), stepK E C f all o G h k' = k' ((G.upd vu).put o.dst x) h' := by
  rcases stepK_some hk with ⟨hw, hk⟩ | ⟨hw, hk⟩
  · obtain ⟨vu, x, h', hk, hvu, hx⟩ := op_loc hn (fun x hx => ⟨ha.1 x hx, hs x hx⟩) hk
    exact ⟨vu, x, h', hk, hvu, fun k' => (stepK_yes (ha.2 ▸ hw)).trans (hx k')⟩
  · exact ⟨none, _, h, hk, (fun _ _ h => nomatch h), fun k' => stepK_no (ha.2 ▸ hw)⟩

theorem sown_loc (hn : ownOp E f o = true) (hk : stepK E C f all o F h k = some r) :
    (∃ d x cs, o.dst = some d ∧ (x = .self d 0 ∨ ∃ n, x = .lit d n) ∧ anySelf d (F.tmps.set d .bot) = false ∧ k ((F.setVar d cs).set d x) h = some r ∧
      ∀ {σ : Type} (G : Fr) (h' : Hp) (k' : Fr → Hp → Option σ), AgreeE F G all o → anySelf d (G.tmps.set d .bot) = false → stepK E C f all o G h' k' = k' ((G.setVar d cs).set d x) h') ∨
    (k (F.put o.dst (.v (.tup []))) h = some r ∧ ∀ {σ : Type} (G : Fr) (h' : Hp) (k' : Fr → Hp → Option σ), AgreeE F G all o → stepK E C f all o G h' k' = k' (G.put o.dst (.v (.tup []))) h') := by
  rcases stepK_some hk with ⟨hw, hk⟩ | ⟨hw, hk⟩
  · obtain ⟨d, x, cs, h1, h2, h3, h4, h5⟩ := own_loc hn hk
    exact .inl ⟨d, x, cs, h1, h2, h3, h4, fun G h' k' ha hs => (stepK_yes (ha.2 ▸ hw)).trans (h5 G h' k' ha.1 hs)⟩
  · exact .inr ⟨hk, fun G h' k' ha => stepK_no (ha.2 ▸ hw)⟩
end
end Go.Ev
