/- What one operation does to the frame, in whichever frame that agrees on its operands. -/
import Derived.Test.YtkgfoiinbnhpbaaEvQ
namespace Go.Ev
open Go Go.RowKit

/-- Does the operation make a variable of the frame's own? -/
def ownOp (E : Env) (f : Nat) (o : Oper) : Bool :=
  match o.op, o.dst with
  | .alloc _, some d | .box _ _, some d | .buildSlice _ _ _, some d => !E.heapAt f d
  | _, _ => false
/-- Does it look at the frame's slots alone, and change nothing but its own slot? -/
def pureOp (o : Oper) : Bool :=
  match o.op with
  | .alloc _ | .box _ _ | .buildSlice _ _ _ | .makeSlice _ _ _ | .load _ _ | .store _ _ _ => false
  | .call c => match c.callee with
    | .builtin .append | .builtin .copy => false
    | .builtin _ => true
    | _ => false
  | _ => true
def lookOp (o : Oper) : Bool := match o.op with | .load _ _ => true | _ => false

def Agree (F G : Fr) (o : Oper) : Prop := ∀ x ∈ o.op.operands, F.eval x = G.eval x ∧ Same F G (F.eval x)

section
variable {E : Env} {C : AFun} {f : Nat} {o : Oper} {F G : Fr} {h : Hp} {ρ : Type} {r : ρ} {k : Fr → Hp → Option ρ}

theorem pure_loc (hp : pureOp o = true) (ha : ∀ x ∈ o.op.operands, F.eval x = G.eval x) (hk : opK E C f o F h k = some r) :
    ∃ x, k (F.put o.dst x) h = some r ∧ ∀ {σ : Type} (h' : Hp) (k' : Fr → Hp → Option σ), opK E C f o G h' k' = k' (G.put o.dst x) h' := by
  obtain ⟨dst, op, ty, pos, after, guard⟩ := o
  simp only [pureOp] at hp
  simp only at ha ⊢
  have gen : ∀ {op : Op}, (∀ x ∈ op.operands, F.eval x = G.eval x) → (pureK E.P op F.eval fun x => tyF (E.sh ty) x fun x => k (F.put dst x) h) = some r →
      ∃ x, k (F.put dst x) h = some r ∧ ∀ {σ : Type} (h' : Hp) (k' : Fr → Hp → Option σ), (pureK E.P op G.eval fun x => tyF (E.sh ty) x fun x => k' (G.put dst x) h') = k' (G.put dst x) h' := by
    intro op ha hk
    rw [pureK_congr (ε' := G.eval) ha] at hk
    obtain ⟨x, hk, hx⟩ := pureK_par hk
    obtain ⟨hk, ht⟩ := tyF_some hk
    exact ⟨x, hk, fun h' k' => (hx _).trans (ht _)⟩
  cases op
  case slice t x lo hi mx =>
    cases mx with
    | some m => exact gen ha hk
    | none =>
      have hk : (sliceK E.P t (F.eval x) (lo.map F.eval) (hi.map F.eval) fun x => k (F.put dst x) h) = some r := hk
      have e1 : F.eval x = G.eval x := ha x (by simp [Op.operands])
      have e2 : lo.map F.eval = lo.map G.eval := by cases lo with | none => rfl | some l => simp [ha l (by simp [Op.operands])]
      have e3 : hi.map F.eval = hi.map G.eval := by cases hi with | none => rfl | some l => simp [ha l (by simp [Op.operands])]
      rw [e1, e2, e3] at hk
      obtain ⟨y, hk, hy⟩ := sliceK_par hk
      exact ⟨y, hk, fun h' k' => hy fun x => k' (G.put dst x) h'⟩
  case call c =>
    obtain ⟨cal, args, tys⟩ := c
    cases cal
    case builtin b =>
      cases b
      case append => cases hp
      case copy => cases hp
      all_goals exact gen ha hk
    all_goals cases hp
  all_goals first
    | (cases hp; done)
    | exact gen ha hk

theorem look_loc (hl : lookOp o = true) (ha : Agree F G o) (hk : opK E C f o F h k = some r) :
    ∃ x, k (F.put o.dst x) h = some r ∧ ∀ {σ : Type} (k' : Fr → Hp → Option σ), opK E C f o G h k' = k' (G.put o.dst x) h := by
  obtain ⟨dst, op, ty, pos, after, guard⟩ := o
  cases op
  case load t x =>
    have hk : (loadK E.P t (F.eval x) F h fun x => tyF (E.sh ty) x fun x => k (F.put dst x) h) = some r := hk
    obtain ⟨e1, e2⟩ := ha x (by simp [Op.operands])
    obtain ⟨y, hk, hy⟩ := loadK_loc e2 hk
    obtain ⟨hk, ht⟩ := tyF_some hk
    refine ⟨y, hk, fun k' => ?_⟩
    show (loadK E.P t (G.eval x) G h fun x => tyF (E.sh ty) x fun x => k' (G.put dst x) h) = _
    rw [← e1]
    exact (hy _).trans (ht _)
  all_goals (simp [lookOp] at hl)

theorem op_loc (hn : ownOp E f o = false) (ha : Agree F G o) (hk : opK E C f o F h k = some r) :
    ∃ vu x h', k ((F.upd vu).put o.dst x) h' = some r ∧ (∀ e cs, vu = some (e, cs) → ∃ y ∈ o.op.operands, hasSelf e (F.eval y) = true) ∧
      ∀ {σ : Type} (k' : Fr → Hp → Option σ), opK E C f o G h k' = k' ((G.upd vu).put o.dst x) h' := by
  by_cases hp : pureOp o = true
  · obtain ⟨x, hk, hx⟩ := pure_loc hp (fun x hx => (ha x hx).1) hk
    exact ⟨none, x, h, hk, (fun _ _ h => nomatch h), fun k' => hx h k'⟩
  by_cases hl : lookOp o = true
  · obtain ⟨x, hk, hx⟩ := look_loc hl ha hk
    exact ⟨none, x, h, hk, (fun _ _ h => nomatch h), fun k' => hx k'⟩
  obtain ⟨dst, op, ty, pos, after, guard⟩ := o
  cases op
  case alloc t =>
    cases dst with
    | none => cases hk
    | some d =>
      have hh : E.heapAt f d = true := by simpa [ownOp] using hn
      simp only [opK, hh] at hk ⊢
      split at hk
      · rename_i z hz
        exact ⟨none, _, _, hk, (fun _ _ h => nomatch h), fun k' => rfl⟩
      · cases hk
  case box t x =>
    cases dst with
    | none => cases hk
    | some d =>
      have hh : E.heapAt f d = true := by simpa [ownOp] using hn
      simp only [opK, hh] at hk ⊢
      rw [(ha x (by simp [Op.operands])).1] at hk
      obtain ⟨v, hk, hv⟩ := asK_par hk
      simp only at hk
      split at hk
      · rename_i hd
        exact ⟨none, _, _, hk, (fun _ _ h => nomatch h), fun k' => (hv _).trans (by simp only [hd]; rfl)⟩
      · cases hk
  case buildSlice t n ps =>
    cases dst with
    | none => cases hk
    | some d =>
      have hh : E.heapAt f d = true := by simpa [ownOp] using hn
      simp only [opK, hh] at hk ⊢
      split at hk
      · rename_i e he
        split at hk
        · cases hk
        · rename_i hb
          rw [partsK_congr (ε' := G.eval) fun p hp => (ha p.2 (by simp [Op.operands]; exact ⟨p.1, by simpa using hp⟩)).1] at hk
          obtain ⟨l, hk, hl⟩ := partsK_par hk
          split at hk
          · rename_i z hz
            simp only at hk
            split at hk
            · rename_i cs hcs
              exact ⟨none, _, _, hk, (fun _ _ h => nomatch h), fun k' => (hl _).trans (by simp only [hz, hcs]; rfl)⟩
            · cases hk
          · cases hk
      · cases hk
  case makeSlice t l c =>
    simp only [opK] at hk ⊢
    rw [(ha l (by simp [Op.operands])).1, (ha c (by simp [Op.operands])).1] at hk
    split at hk
    · split at hk
      · split at hk
        · split at hk
          · rename_i hc
            exact ⟨none, _, _, hk, (fun _ _ h => nomatch h), fun k' => by simp [*]; rfl⟩
          · cases hk
        · cases hk
      · cases hk
    · cases hk
  case store t x y =>
    have hk : (asK (F.eval y) fun v => storeK E.P t (F.eval x) v F h fun F h => k (F.put dst .bot) h) = some r := hk
    obtain ⟨e1, e2⟩ := ha x (by simp [Op.operands])
    rw [(ha y (by simp [Op.operands])).1] at hk
    obtain ⟨v, hk, hv⟩ := asK_par hk
    obtain ⟨vu, h', hk, hvu, hs⟩ := storeK_loc e2 hk
    refine ⟨vu, .bot, h', hk, fun e cs he => ⟨x, by simp [Op.operands], hvu e cs he⟩, fun k' => ?_⟩
    refine (hv _).trans ?_
    simp only
    rw [← e1]
    exact hs _
  case call c =>
    obtain ⟨cal, args, tys⟩ := c
    have calls : ∀ {cal : Callee}, (∀ x ∈ (Op.call ⟨cal, args, tys⟩).operands, F.eval x = G.eval x) → (callK E.P C ⟨cal, args, tys⟩ F.eval h fun r h => tyF (E.sh ty) (.v r) fun x => k (F.put dst x) h) = some r →
        ∃ x h', k (F.put dst x) h' = some r ∧ ∀ {σ : Type} (k' : Fr → Hp → Option σ), (callK E.P C ⟨cal, args, tys⟩ G.eval h fun r h => tyF (E.sh ty) (.v r) fun x => k' (G.put dst x) h) = k' (G.put dst x) h' := by
      intro cal ha hk
      rw [callK_congr (ε' := G.eval) ha] at hk
      obtain ⟨x, h', hk, hx⟩ := callK_par hk
      obtain ⟨hk, ht⟩ := tyF_some hk
      exact ⟨_, _, hk, fun k' => (hx _).trans (ht _)⟩
    cases cal
    case builtin b =>
      cases b
      case append =>
        simp only [opK] at hk ⊢
        split at hk
        · rename_i s x t u hargs htys
          split at hk
          · rename_i e he
            obtain ⟨e1, e2⟩ := ha x (by simp [Op.operands, Call.operands, ← Array.mem_toList_iff, hargs])
            rw [(ha s (by simp [Op.operands, Call.operands, ← Array.mem_toList_iff, hargs])).1] at hk
            obtain ⟨v, hk, hv⟩ := asK_par hk
            obtain ⟨news, n, hk, hs⟩ := appendSourceK_loc e2 hk
            obtain ⟨v', h', hk, hv'⟩ := appendK_par hk
            refine ⟨none, _, h', hk, (fun _ _ h => nomatch h), fun k' => ?_⟩
            refine (hv _).trans ?_
            rw [← e1]
            exact (hs _).trans (hv' _)
          · cases hk
        · cases hk
      case copy =>
        simp only [opK] at hk ⊢
        split at hk
        · rename_i s x t u hargs htys
          split at hk
          · rename_i e he
            obtain ⟨e1, e2⟩ := ha x (by simp [Op.operands, Call.operands, ← Array.mem_toList_iff, hargs])
            rw [(ha s (by simp [Op.operands, Call.operands, ← Array.mem_toList_iff, hargs])).1] at hk
            obtain ⟨v, hk, hv⟩ := asK_par hk
            obtain ⟨news, n, hk, hs⟩ := sourceK_loc e2 hk
            obtain ⟨v', h', hk, hv'⟩ := copyK_par hk
            refine ⟨none, _, h', hk, (fun _ _ h => nomatch h), fun k' => ?_⟩
            refine (hv _).trans ?_
            rw [← e1]
            exact (hs _).trans (hv' _)
          · cases hk
        · cases hk
      all_goals exact absurd rfl hp
    case value g =>
      obtain ⟨x, h', hk, hx⟩ := calls (fun x hx => (ha x hx).1) hk
      exact ⟨none, x, h', hk, (fun _ _ h => nomatch h), fun k' => hx k'⟩
    case invoke g m =>
      obtain ⟨x, h', hk, hx⟩ := calls (fun x hx => (ha x hx).1) hk
      exact ⟨none, x, h', hk, (fun _ _ h => nomatch h), fun k' => hx k'⟩
  all_goals first
    | exact absurd rfl hp
    | exact absurd rfl hl
end
end Go.Ev
