/- One operation looks at its operands, and at the variables that these name, alone. -/
import Derived.Test.YtkgfoiinbnhpbaaEvP
namespace Go.Ev
open Go Go.RowKit
section
variable {P : Program} {ρ : Type} {r : ρ} {F G : Fr}

theorem argsK_congr {ε ε' : Operand → FV} : ∀ {l : List Operand} {k : List V → Option ρ}, (∀ x ∈ l, ε x = ε' x) → argsK ε l k = argsK ε' l k
  | [], _, _ => rfl
  | x :: l, k, h => by
    simp only [argsK, h x (by simp)]
    congr 1
    funext v
    exact argsK_congr fun y hy => h y (by simp [hy])
theorem partsK_congr {ε ε' : Operand → FV} : ∀ {l : List (Nat × Operand)} {k : List (Nat × V) → Option ρ}, (∀ p ∈ l, ε p.2 = ε' p.2) → partsK ε l k = partsK ε' l k
  | [], _, _ => rfl
  | (i, x) :: l, k, h => by
    simp only [partsK, h (i, x) (by simp)]
    congr 1
    funext v
    exact partsK_congr fun y hy => h y (by simp [hy])

theorem pureK_congr {op : Op} {ε ε' : Operand → FV} {k : FV → Option ρ} (h : ∀ x ∈ op.operands, ε x = ε' x) : pureK P op ε k = pureK P op ε' k := by
  cases op
  case makeFunc fn first caps =>
    cases fn
    case func f =>
      simp only [Op.operands] at h
      simp only [pureK]
      split
      · exact argsK_congr fun x hx => h x (by simp at hx ⊢; exact .inr hx)
      · rfl
    case method name =>
      simp only [Op.operands] at h
      simp only [pureK]
      split
      · rename_i x hf hc
        rw [h x (by rw [← Array.mem_toList_iff]; simp [hf])]
      · rfl
    all_goals rfl
  case build t ps =>
    simp only [Op.operands] at h
    exact partsK_congr fun p hp => h p.2 (by simp; exact ⟨p.1, by simpa using hp⟩)
  case call c =>
    simp only [Op.operands, Call.operands] at h
    simp only [pureK]
    split
    · split
      · rename_i x t hx ht
        rw [h x (by rw [← Array.mem_toList_iff]; simp [hx])]
      · rfl
    · split
      · rename_i x t hx ht
        rw [h x (by rw [← Array.mem_toList_iff]; simp [hx])]
      · rfl
    · split
      · rename_i x y hx
        rw [h x (by rw [← Array.mem_toList_iff]; simp [hx]), h y (by rw [← Array.mem_toList_iff]; simp [hx])]
      · rfl
    · split
      · rename_i x y hx
        rw [h x (by rw [← Array.mem_toList_iff]; simp [hx]), h y (by rw [← Array.mem_toList_iff]; simp [hx])]
      · rfl
    · rfl
  all_goals simp only [Op.operands] at h
  all_goals first
    | rfl
    | (simp only [pureK]; rw [h _ (by simp)]; done)
    | (simp only [pureK]; simp_all; done)

/-- A frame, and a variable of it that is written. -/
def Fr.upd (F : Fr) : Option (Nat × List V) → Fr
  | none => F
  | some (e, cs) => F.setVar e cs

/-- Do two frames hold the same in the variable that a slot names? -/
def Same (F G : Fr) (x : FV) : Prop := ∀ e, hasSelf e x = true → F.vars e = G.vars e

theorem loadK_loc {t : TypeId} {x : FV} {h : Hp} {k : FV → Option ρ} (hs : Same F G x) (hk : loadK P t x F h k = some r) : ∃ y, k y = some r ∧ ∀ {σ : Type} (k' : FV → Option σ), loadK P t x G h k' = k' y := by
  unfold loadK at hk
  split at hk
  · rename_i q hq
    split at hk
    · obtain ⟨y, hk, hy⟩ := bind_par hk
      simp only at hk
      split at hk
      · rename_i hc
        obtain ⟨z, hk, hz⟩ := partK_par hk
        refine ⟨_, hk, fun k' => ?_⟩
        simp only [loadK, hq]
        refine (hy _).trans ?_
        rw [if_pos hc]
        exact hz _
      · cases hk
    · rename_i d o
      obtain ⟨y, hk, hy⟩ := bind_par hk
      simp only at hk
      obtain ⟨z, hk, hz⟩ := partK_par hk
      refine ⟨_, hk, fun k' => ?_⟩
      simp only [loadK, hq, ← hs d (by simp [hasSelf])]
      exact (hy _).trans (hz _)
    · cases hk
  · cases hk

theorem boundK_par {x : Option FV} {d top : Nat} {k : Nat → Option ρ} (h : boundK x d top k = some r) : One (fun {_} => boundK x d top) k r := by
  unfold boundK at h; unfold boundK One
  repeat' (split at h)
  all_goals first
    | (cases h; done)
    | exact ⟨_, h, fun k' => by simp [*]⟩
    | exact ⟨_, h, fun k' => by simp_all⟩
    | exact ⟨_, _, h, fun k' => by simp [*]⟩
    | exact ⟨_, _, h, fun k' => by simp_all⟩
theorem sliceK_par {t : TypeId} {x : FV} {lo hi : Option FV} {k : FV → Option ρ} (h : sliceK P t x lo hi k = some r) : One (fun {_} => sliceK P t x lo hi) k r := by
  unfold sliceK at h
  split at h
  · split at h
    · split at h
      · split at h
        · obtain ⟨b, h, hb⟩ := boundK_par h
          obtain ⟨a, h, ha⟩ := boundK_par h
          exact ⟨_, h, fun k' => by simp only [sliceK, *]⟩
        · cases h
      · obtain ⟨b, h, hb⟩ := boundK_par h
        obtain ⟨a, h, ha⟩ := boundK_par h
        exact ⟨_, h, fun k' => by simp only [sliceK, *]⟩
      · cases h
    · cases h
  · split at h
    · obtain ⟨b, h, hb⟩ := boundK_par h
      obtain ⟨a, h, ha⟩ := boundK_par h
      exact ⟨_, h, fun k' => by simp only [sliceK, *]⟩
    · cases h
  · cases h

theorem storeK_loc {t : TypeId} {x : FV} {v : V} {h : Hp} {k : Fr → Hp → Option ρ} (hs : Same F G x) (hk : storeK P t x v F h k = some r) :
    ∃ vu h', k (F.upd vu) h' = some r ∧ (∀ e cs, vu = some (e, cs) → hasSelf e x = true) ∧ ∀ {σ : Type} (k' : Fr → Hp → Option σ), storeK P t x v G h k' = k' (G.upd vu) h' := by
  unfold storeK at hk
  split at hk
  · cases hk
  · rename_i q hq
    split at hk
    · rename_i hd
      split at hk
      · obtain ⟨y, hk, hy⟩ := bind_par hk
        simp only at hk
        split at hk
        · rename_i hc
          refine ⟨none, _, hk, (fun _ _ h => nomatch h), fun k' => ?_⟩
          simp only [storeK, hq, hd]
          refine (hy _).trans ?_
          rw [if_pos hc]
          rfl
        · cases hk
      · rename_i d o
        obtain ⟨y, hk, hy⟩ := bind_par hk
        simp only at hk
        split at hk
        · rename_i hc
          refine ⟨some (d, _), _, hk, (fun _ _ h => by cases h; simp [hasSelf]), fun k' => ?_⟩
          simp only [storeK, hq, hd, ← hs d (by simp [hasSelf])]
          refine (hy _).trans ?_
          rw [if_pos hc]
          rfl
        · cases hk
      · cases hk
    · cases hk

theorem sourceK_loc {n : Nat} {x : FV} {h : Hp} {k : List V → Nat → Option ρ} (hs : Same F G x) (hk : sourceK n F h x k = some r) :
    ∃ y z, k y z = some r ∧ ∀ {σ : Type} (k' : List V → Nat → Option σ), sourceK n G h x k' = k' y z := by
  unfold sourceK at hk
  split at hk
  · rename_i d m
    obtain ⟨y, hk, hy⟩ := bind_par hk
    simp only at hk
    split at hk
    · rename_i hc
      refine ⟨_, _, hk, fun k' => ?_⟩
      simp only [sourceK, ← hs d (by simp [hasSelf])]
      refine (hy _).trans ?_
      rw [if_pos hc]
    · cases hk
  · exact ⟨_, _, hk, fun k' => rfl⟩
  · obtain ⟨y, hk, hy⟩ := bind_par hk
    simp only at hk
    split at hk
    · rename_i hc
      refine ⟨_, _, hk, fun k' => ?_⟩
      simp only [sourceK]
      refine (hy _).trans ?_
      rw [if_pos hc]
    · cases hk
  · cases hk

theorem appendK_par {size bytes n : Nat} {s : V} {news : List V} {h : Hp} {k : V → Hp → Option ρ} (hk : appendK size bytes s news n h k = some r) : One2 (fun {_} => appendK size bytes s news n h) k r := by
  unfold appendK at hk
  split at hk
  · split at hk
    · rename_i hc
      exact ⟨_, _, hk, fun k' => by simp only [appendK]; rw [if_pos hc]⟩
    · rename_i hc
      split at hk
      · rename_i hd
        exact ⟨_, _, hk, fun k' => by simp only [appendK]; rw [if_neg hc, if_pos hd]⟩
      · cases hk
  · obtain ⟨y, hk, hy⟩ := bind_par hk
    simp only at hk
    split at hk
    · rename_i h0
      exact ⟨_, _, hk, fun k' => by simp only [appendK]; refine (hy _).trans ?_; rw [if_pos h0]⟩
    · rename_i h0
      split at hk
      · rename_i h1
        split at hk
        · rename_i h2
          split at hk
          · rename_i h3
            exact ⟨_, _, hk, fun k' => by simp only [appendK]; refine (hy _).trans ?_; rw [if_neg h0, if_pos h1, if_pos h2, if_pos h3]⟩
          · rename_i h3
            split at hk
            · rename_i h4
              exact ⟨_, _, hk, fun k' => by simp only [appendK]; refine (hy _).trans ?_; rw [if_neg h0, if_pos h1, if_pos h2, if_neg h3, if_pos h4]⟩
            · cases hk
        · rename_i h2
          split at hk
          · rename_i h3
            exact ⟨_, _, hk, fun k' => by simp only [appendK]; refine (hy _).trans ?_; rw [if_neg h0, if_pos h1, if_neg h2, if_pos h3]⟩
          · cases hk
      · cases hk
  · cases hk

theorem copyK_par {size n : Nat} {s : V} {src : List V} {h : Hp} {k : V → Hp → Option ρ} (hk : copyK size s src n h k = some r) : One2 (fun {_} => copyK size s src n h) k r := by
  unfold copyK at hk
  split at hk
  · exact ⟨_, _, hk, fun k' => rfl⟩
  · obtain ⟨y, hk, hy⟩ := bind_par hk
    simp only at hk
    split at hk
    · rename_i h0
      exact ⟨_, _, hk, fun k' => by simp only [copyK]; refine (hy _).trans ?_; rw [if_pos h0]⟩
    · cases hk
  · cases hk

theorem appendSourceK_loc {t u e : TypeId} {size : Nat} {x : FV} {h : Hp} {k : List V → Nat → Option ρ} (hs : Same F G x) (hk : appendSourceK P t u e size F x h k = some r) :
    ∃ y z, k y z = some r ∧ ∀ {σ : Type} (k' : List V → Nat → Option σ), appendSourceK P t u e size G x h k' = k' y z := by
  unfold appendSourceK at hk
  split at hk
  · rename_i kd hu
    split at hk
    · split at hk
      · rename_i hc
        split at hk
        · rename_i z hz
          exact ⟨_, _, hk, fun k' => by simp only [appendSourceK, hu]; rw [if_pos hc]; simp only [hz]⟩
        · cases hk
      · cases hk
    · cases hk
  · rename_i hno
    split at hk
    · rename_i hd
      obtain ⟨y, z, hk, hy⟩ := sourceK_loc hs hk
      refine ⟨y, z, hk, fun k' => ?_⟩
      unfold appendSourceK
      split
      · rename_i kd hu; exact absurd hu (hno kd)
      · simp only [hd]; exact hy k'
    · cases hk

theorem callK_par {C : AFun} {c : Call} {ε : Operand → FV} {h : Hp} {k : V → Hp → Option ρ} (hk : callK P C c ε h k = some r) : One2 (fun {_} => callK P C c ε h) k r := by
  unfold callK at hk
  obtain ⟨args, hk, ha⟩ := argsK_par hk
  split at hk
  · rename_i f hcal
    split at hk
    · rename_i g caps hf
      obtain ⟨y, hk, hy⟩ := bind_par hk
      simp only at hk
      exact ⟨_, _, hk, fun k' => by refine (ha _).trans ?_; simp only [hcal, hf]; exact hy _⟩
    · cases hk
  · rename_i recv name hcal
    split at hk
    · rename_i t v hf
      split at hk
      · rename_i fr hm
        obtain ⟨y, hk, hy⟩ := bind_par hk
        simp only at hk
        exact ⟨_, _, hk, fun k' => by refine (ha _).trans ?_; simp only [hcal, hf, hm]; exact hy _⟩
      · cases hk
    · cases hk
  · cases hk
theorem callK_congr {C : AFun} {c : Call} {ε ε' : Operand → FV} {h : Hp} {k : V → Hp → Option ρ} (he : ∀ x ∈ c.operands, ε x = ε' x) : callK P C c ε h k = callK P C c ε' h k := by
  unfold callK
  rw [argsK_congr (ε' := ε') fun x hx => he x (by simp at hx; simp [Call.operands, hx])]
  congr 1
  funext args
  split
  · rename_i f hcal; rw [he f (by simp [Call.operands, hcal])]
  · rename_i recv name hcal; rw [he recv (by simp [Call.operands, hcal])]
  · rfl
end
end Go.Ev
