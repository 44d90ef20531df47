/- The evaluator is one function, whatever goes on behind it: each part hands on one result. -/
import Derived.Test.YtkgfoiinbnhpbaaEvO
namespace Go.Ev
open Go Go.RowKit

/-- 'f' (what a part of the evaluator does with what goes on behind it) hands on one result to 'k', and goes on as any other would with it. -/
def One {α : Type} (f : ∀ {σ : Type}, (α → Option σ) → Option σ) {ρ : Type} (k : α → Option ρ) (r : ρ) : Prop :=
  ∃ x, k x = some r ∧ ∀ {σ : Type} (k' : α → Option σ), f k' = k' x
def One2 {α β : Type} (f : ∀ {σ : Type}, (α → β → Option σ) → Option σ) {ρ : Type} (k : α → β → Option ρ) (r : ρ) : Prop :=
  ∃ x y, k x y = some r ∧ ∀ {σ : Type} (k' : α → β → Option σ), f k' = k' x y

section
variable {P : Program} {ρ : Type} {r : ρ}

theorem bind_par {α : Type} {x : Option α} {k : α → Option ρ} (h : x.bind k = some r) : One (fun {_} k => x.bind k) k r := by
  cases x with
  | none => cases h
  | some x => exact ⟨x, h, fun k' => rfl⟩

theorem partK_par {b : Bool} {n : Nat} {cs : List V} {o : Nat} {k : V → Option ρ} (h : partK b n cs o k = some r) : One (fun {_} => partK b n cs o) k r := by
  unfold partK at h
  split at h
  · split at h
    · exact ⟨_, h, fun k' => by simp [partK, *]⟩
    · cases h
  · obtain ⟨x, h, hx⟩ := bind_par h
    exact ⟨x, h, hx⟩

theorem cmpK_par {op : BinOp} {x y : Int} {k : V → Option ρ} (h : cmpK op x y k = some r) : One (fun {_} => cmpK op x y) k r := by
  unfold cmpK at h; unfold cmpK One
  repeat' (split at h)
  all_goals first
    | (cases h; done)
    | exact ⟨_, h, fun k' => by simp [*]⟩
    | exact ⟨_, h, fun k' => by simp_all⟩
    | exact ⟨_, _, h, fun k' => by simp [*]⟩
    | exact ⟨_, _, h, fun k' => by simp_all⟩
theorem intK_par {op : BinOp} {kd : IntKind} {x y : Int} {k : V → Option ρ} (h : intK op kd x y k = some r) : One (fun {_} => intK op kd x y) k r := by
  cases op
  case quo =>
    simp only [intK] at h
    split at h
    · cases h
    · rename_i hy; exact ⟨_, h, fun k' => by simp [intK, hy]⟩
  case rem =>
    simp only [intK] at h
    split at h
    · cases h
    · rename_i hy; exact ⟨_, h, fun k' => by simp [intK, hy]⟩
  case add => exact ⟨_, h, fun _ => rfl⟩
  case sub => exact ⟨_, h, fun _ => rfl⟩
  case mul => exact ⟨_, h, fun _ => rfl⟩
  case and => exact ⟨_, h, fun _ => rfl⟩
  case or => exact ⟨_, h, fun _ => rfl⟩
  case xor => exact ⟨_, h, fun _ => rfl⟩
  case andNot => exact ⟨_, h, fun _ => rfl⟩
  all_goals
    simp only [intK] at h
    obtain ⟨v, h, hv⟩ := cmpK_par h
    exact ⟨v, h, fun k' => hv k'⟩
theorem shiftK_par {l : Bool} {kd : IntKind} {x y : Int} {k : V → Option ρ} (h : shiftK l kd x y k = some r) : One (fun {_} => shiftK l kd x y) k r := by
  unfold shiftK at h
  split at h
  · cases h
  · rename_i hy
    cases l
    · exact ⟨_, h, fun k' => by simp [shiftK, hy]⟩
    · exact ⟨_, h, fun k' => by simp [shiftK, hy]⟩
theorem binK_par {op : BinOp} {t : TypeId} {lit : Bool} {x y : V} {k : V → Option ρ} (h : binK P op t lit x y k = some r) : One (fun {_} => binK P op t lit x y) k r := by
  by_cases hi : ∃ kd a kd' b, x = .int kd a ∧ y = .int kd' b
  · obtain ⟨kd, a, kd', b, rfl, rfl⟩ := hi
    have gen : (match decide (kd = kd') with | true => intK op kd a b k | false => none) = some r → One (fun {_} k => match decide (kd = kd') with | true => intK op kd a b k | false => none) k r := by
      intro h
      split at h
      · rename_i hd
        obtain ⟨x, h, hx⟩ := intK_par h
        exact ⟨x, h, fun k' => by simp only [hd]; exact hx k'⟩
      · cases h
    cases op
    case shl =>
      obtain ⟨v, h, hv⟩ := shiftK_par (l := true) (kd := kd) (x := a) (y := b) h
      exact ⟨v, h, fun k' => hv k'⟩
    case shr =>
      obtain ⟨v, h, hv⟩ := shiftK_par (l := false) (kd := kd) (x := a) (y := b) h
      exact ⟨v, h, fun k' => hv k'⟩
    all_goals
      obtain ⟨v, h, hv⟩ := gen h
      exact ⟨v, h, fun k' => hv k'⟩
  · have e : ∀ {σ : Type} (k : V → Option σ), binK P op t lit x y k = match (generalizing := false) op with
        | .eql => (eqV P t lit x y).bind fun b => k (.bool b)
        | .neq => (eqV P t lit x y).bind fun b => k (.bool (!b))
        | _ => none := by
      intro σ k
      unfold binK
      split
      · exact absurd ⟨_, _, _, _, rfl, rfl⟩ hi
      · rfl
    rw [e] at h
    split at h
    · obtain ⟨b, h, hb⟩ := bind_par h
      exact ⟨_, h, fun k' => by show binK _ _ _ _ _ _ _ = _; rw [e]; exact hb fun b => k' (.bool b)⟩
    · obtain ⟨b, h, hb⟩ := bind_par h
      exact ⟨_, h, fun k' => by show binK _ _ _ _ _ _ _ = _; rw [e]; exact hb fun b => k' (.bool (!b))⟩
    · cases h
theorem unK_par {op : UnOp} {x : V} {k : V → Option ρ} (h : unK op x k = some r) : One (fun {_} => unK op x) k r := by
  unfold unK at h; unfold unK One
  repeat' (split at h)
  all_goals first
    | (cases h; done)
    | exact ⟨_, h, fun k' => by simp [*]⟩
    | exact ⟨_, h, fun k' => by simp_all⟩
    | exact ⟨_, _, h, fun k' => by simp [*]⟩
    | exact ⟨_, _, h, fun k' => by simp_all⟩
theorem convK_par {s t : TypeId} {x : V} {k : V → Option ρ} (h : convK P s t x k = some r) : One (fun {_} => convK P s t x) k r := by
  unfold convK at h; unfold convK One
  repeat' (split at h)
  all_goals first
    | (cases h; done)
    | exact ⟨_, h, fun k' => by simp [*]⟩
    | exact ⟨_, h, fun k' => by simp_all⟩
    | exact ⟨_, _, h, fun k' => by simp [*]⟩
    | exact ⟨_, _, h, fun k' => by simp_all⟩
theorem asK_par {x : FV} {k : V → Option ρ} (h : asK x k = some r) : One (fun {_} => asK x) k r := by
  unfold asK at h; unfold asK One
  repeat' (split at h)
  all_goals first
    | (cases h; done)
    | exact ⟨_, h, fun k' => by simp [*]⟩
    | exact ⟨_, h, fun k' => by simp_all⟩
    | exact ⟨_, _, h, fun k' => by simp [*]⟩
    | exact ⟨_, _, h, fun k' => by simp_all⟩
theorem argsK_par {ε : Operand → FV} : ∀ {l : List Operand} {ρ : Type} {r : ρ} {k : List V → Option ρ}, argsK ε l k = some r → One (fun {_} => argsK ε l) k r
  | [], _, _, k, h => ⟨_, h, fun _ => rfl⟩
  | x :: l, _, _, k, h => by
    obtain ⟨v, h, hv⟩ := asK_par h
    obtain ⟨vs, h, hvs⟩ := argsK_par h
    exact ⟨_, h, fun k' => (hv fun v => argsK ε l fun l => k' (v :: l)).trans (hvs _)⟩
theorem partsK_par {ε : Operand → FV} : ∀ {l : List (Nat × Operand)} {ρ : Type} {r : ρ} {k : List (Nat × V) → Option ρ}, partsK ε l k = some r → One (fun {_} => partsK ε l) k r
  | [], _, _, k, h => ⟨_, h, fun _ => rfl⟩
  | (i, x) :: l, _, _, k, h => by
    obtain ⟨v, h, hv⟩ := asK_par h
    obtain ⟨vs, h, hvs⟩ := partsK_par h
    exact ⟨_, h, fun k' => (hv fun v => partsK ε l fun l => k' ((i, v) :: l)).trans (hvs _)⟩
theorem lenK_par {t : TypeId} {x : FV} {k : FV → Option ρ} (h : lenK P t x k = some r) : One (fun {_} => lenK P t x) k r := by
  unfold lenK at h; unfold lenK One
  repeat' (split at h)
  all_goals first
    | (cases h; done)
    | exact ⟨_, h, fun k' => by simp [*]⟩
    | exact ⟨_, h, fun k' => by simp_all⟩
    | exact ⟨_, _, h, fun k' => by simp [*]⟩
    | exact ⟨_, _, h, fun k' => by simp_all⟩
theorem idxK_par {t : TypeId} {x i : FV} {k : FV → Option ρ} (h : idxK P t x i k = some r) : One (fun {_} => idxK P t x i) k r := by
  unfold idxK at h; unfold idxK One
  repeat' (split at h)
  all_goals first
    | (cases h; done)
    | exact ⟨_, h, fun k' => by simp [*]⟩
    | exact ⟨_, h, fun k' => by simp_all⟩
    | exact ⟨_, _, h, fun k' => by simp [*]⟩
    | exact ⟨_, _, h, fun k' => by simp_all⟩
theorem indexK_par {t : TypeId} {x i : FV} {k : FV → Option ρ} (h : indexK P t x i k = some r) : One (fun {_} => indexK P t x i) k r := by
  unfold indexK at h
  split at h
  · split at h
    · split at h
      · split at h
        · split at h
          · obtain ⟨v, h, hv⟩ := partK_par h
            exact ⟨_, h, fun k' => by simp only [indexK, *]; simp [hv]⟩
          · cases h
        · cases h
      · cases h
    · split at h
      · split at h
        · obtain ⟨v, h, hv⟩ := bind_par h
          exact ⟨_, h, fun k' => by simp only [indexK, *]; simp [hv, *]⟩
        · cases h
      · cases h
    · cases h
  · cases h

/-- 'par' with parts: 'par1 L' goes on by the part's law 'L'. -/
theorem pureK_par {op : Op} {ε : Operand → FV} {k : FV → Option ρ} (h : pureK P op ε k = some r) : One (fun {_} => pureK P op ε) k r := by
  unfold pureK at h
  split at h
  case h_3 => -- pick
    split at h
    · split at h
      · exact ⟨_, h, fun k' => by simp only [pureK, *]⟩
      · rename_i hno
        split at h
        · exact ⟨_, h, fun k' => by simp only [pureK, *]⟩
        · exact ⟨_, h, fun k' => by simp only [pureK, *]⟩
    · cases h
  case h_5 => -- binOp
    obtain ⟨a, h, ha⟩ := asK_par h
    obtain ⟨b, h, hb⟩ := asK_par h
    obtain ⟨c, h, hc⟩ := binK_par h
    exact ⟨_, h, fun k' => (ha _).trans ((hb _).trans (hc _))⟩
  case h_6 =>
    obtain ⟨a, h, ha⟩ := asK_par h
    obtain ⟨c, h, hc⟩ := unK_par h
    exact ⟨_, h, fun k' => (ha _).trans (hc _)⟩
  case h_7 =>
    obtain ⟨a, h, ha⟩ := asK_par h
    obtain ⟨c, h, hc⟩ := convK_par h
    exact ⟨_, h, fun k' => (ha _).trans (hc _)⟩
  case h_8 =>
    obtain ⟨a, h, ha⟩ := asK_par h
    split at h
    · cases h
    · rename_i hno hu
      refine ⟨_, h, fun k' => (ha _).trans ?_⟩
      split
      · rename_i h2; rw [hu] at h2; cases h2; exact absurd rfl (hno _)
      · rfl
      · rename_i h2; rw [hu] at h2; cases h2
    · cases h
  case h_9 =>
    split at h
    · rename_i hf hc
      obtain ⟨a, h, ha⟩ := asK_par h
      exact ⟨_, h, fun k' => by simp only [pureK, hf, hc]; exact ha _⟩
    · cases h
  case h_10 =>
    split at h
    · rename_i hf
      obtain ⟨a, h, ha⟩ := argsK_par h
      exact ⟨_, h, fun k' => by simp only [pureK, hf]; exact ha _⟩
    · cases h
  case h_12 =>
    split at h
    · rename_i p hp
      split at h
      · obtain ⟨a, h, ha⟩ := partK_par h
        exact ⟨_, h, fun k' => by simp only [pureK, *]⟩
      · cases h
    · cases h
  case h_13 => exact idxK_par h
  case h_14 => exact indexK_par h
  case h_15 =>
    split at h
    · obtain ⟨a, h, ha⟩ := bind_par h
      exact ⟨_, h, fun k' => by simp only [pureK, *]⟩
    · cases h
  case h_16 =>
    obtain ⟨a, h, ha⟩ := partsK_par h
    split at h
    · rename_i hz ht
      simp only at h
      split at h
      · rename_i hf
        exact ⟨_, h, fun k' => (ha _).trans (by simp only [hz, ht, hf])⟩
      · cases h
    · cases h
  case h_17 =>
    split at h
    · split at h
      · obtain ⟨a, h, ha⟩ := lenK_par h
        exact ⟨_, h, fun k' => by simp only [pureK, *]⟩
      · cases h
    · split at h
      · split at h
        · exact ⟨_, h, fun k' => by simp only [pureK, *]⟩
        · cases h
      · cases h
    · split at h
      · split at h
        · split at h
          · exact ⟨_, h, fun k' => by simp only [pureK, *]⟩
          · cases h
        · cases h
      · cases h
    · split at h
      · split at h
        · split at h
          · exact ⟨_, h, fun k' => by simp only [pureK, *]⟩
          · cases h
        · cases h
      · cases h
    · cases h
  all_goals
    unfold pureK One
    repeat' (split at h)
    all_goals first
      | (cases h; done)
      | exact ⟨_, h, fun k' => by simp [*]⟩
      | exact ⟨_, h, fun k' => by simp_all⟩
      | exact ⟨_, _, h, fun k' => by simp [*]⟩
      | exact ⟨_, _, h, fun k' => by simp_all⟩
end
end Go.Ev
