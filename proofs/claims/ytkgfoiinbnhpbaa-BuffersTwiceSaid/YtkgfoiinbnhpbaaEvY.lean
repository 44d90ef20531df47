/- Code: the evaluator's run of a body is the machine's. -/
import Derived.Test.YtkgfoiinbnhpbaaEvX
import Derived.LoopN
import Derived.Scope
namespace Go.Ev
open Go Go.RowKit

/-- Every region whose order is drawn, and for which an order is given, is walked in an order that fits. -/
def goodCode (E : Env) (f : Nat) : Code → Bool
  | .region id ops true => match E.sched f id with | some s => schedB E f ops s | none => true
  | .seq a b => goodCode E f a && goodCode E f b
  | .cond _ a b => goodCode E f a && goodCode E f b
  | .block _ c => goodCode E f c
  | .loop c => goodCode E f c
  | .scope c => goodCode E f c
  | _ => true

def exOf : Ex → Exit | .normal => .normal | .exit i => .exit i | .ret => .ret

section
variable {E : Env} {C : AFun} {f n : Nat} {F : Fr} {h : Hp} {base : Nat} {w0 we w : World} {μe μ : Mu} {β : Bt} {a : Act}

theorem maskL_get (l : List Nat) : ∀ (xs : List FV) (i j : Nat), (maskL l i xs)[j]? = (xs[j]?).map fun x => match l.contains (i + j) with | true => x | false => .bot
  | [], i, j => by simp [maskL]
  | x :: xs, i, j => by
    cases j with
    | zero => simp [maskL]; cases l.contains i <;> rfl
    | succ j => simp only [maskL, List.getElem?_cons_succ, maskL_get l xs (i + 1) j]; rw [show i + 1 + j = i + (j + 1) by omega]
theorem maskL_length (l : List Nat) : ∀ (xs : List FV) (i : Nat), (maskL l i xs).length = xs.length
  | [], _ => rfl
  | _ :: xs, i => by simp [maskL, maskL_length l xs (i + 1)]

theorem maskVars_some : ∀ {l : List Nat} {v : Nat → Option (List V)} {d : Nat} {cs : List V}, maskVars l v d = some cs → v d = some cs
  | [], _, _, _, h => by cases h
  | e :: l, v, d, cs, h => by
    simp only [maskVars] at h
    split at h
    · rename_i he
      rw [of_decide_eq_true he]
      exact h
    · exact maskVars_some h

theorem ST.mask (st : ST base w0 μe we μ β F h a w) (l : List Nat × List Nat) : ST base w0 μe we μ β (F.mask l) h a w := by
  refine ⟨st.le, st.grow, st.keep, st.size, st.bas, st.hr, ?_⟩
  refine ⟨st.fr.defers, by simp [Fr.mask, maskL_length, st.fr.size], fun t => ?_, fun d cs hd => ?_, fun d d' cs cs' b h1 h2 => ?_⟩
  · have hs := st.fr.slots t
    simp only [Fr.mask, Fr.get, List.getD_eq_getElem?_getD, maskL_get] at hs ⊢
    cases hx : F.tmps[t]? with
    | none => trivial
    | some x =>
      rw [hx] at hs
      simp only [Option.map_some, Option.getD_some, Nat.zero_add] at hs ⊢
      split
      · exact hs
      · trivial
  · exact st.fr.vars d cs (maskVars_some hd)
  · exact st.fr.inj d d' cs cs' b (maskVars_some h1) (maskVars_some h2)

theorem opsK_some (hN : NoCount E.P) (hC : CalleeOK E.P base w0 C) {ops : Array Oper} {Q : Exit → Act → World → Prop} {ρ : Type} {r : ρ} {k : Fr → Hp → Option ρ}
    (hQ : ∀ μ β F h a w, ST base w0 μe we μ β F h a w → k F h = some r → Q .normal a w) :
    ∀ (l : List Oper) (μ : Mu) (β : Bt) (F : Fr) (h : Hp) (a : Act) (w : World), ST base w0 μe we μ β F h a w → opsK E C f ops.toList l F h k = some r → wpList E.P ops Q l a w
  | [], _, _, _, _, _, _, st, hk => hQ _ _ _ _ _ _ st hk
  | o :: l, _, _, _, _, _, _, st, hk => by
    simp only [wpList]
    simp only [opsK] at hk
    rw [forceF_eq] at hk
    have := step_wp (ops := ops) (Q := Q) (K := wpList E.P ops Q l) hN hC st hk (fun μ' β' F' h' a' w' st' hk' => opsK_some hN hC hQ l _ _ _ _ _ _ st' hk')
    split
    · rename_i hw; rw [if_pos hw] at this; exact .inl this
    · rename_i hw; rw [if_neg hw] at this; exact this

theorem codeK_some (hN : NoCount E.P) (hC : CalleeOK E.P base w0 C) (hm : E.P.follows .mixedOrders = true) : ∀ (c : Code), goodCode E f c = true → ∀ {ρ : Type} {r : ρ} {k : Ex → Fr → Hp → Option ρ} {Q : Exit → Act → World → Prop},
    (∀ e μ β F h a w, ST base w0 μe we μ β F h a w → k e F h = some r → Q (exOf e) a w) → ∀ (μ : Mu) (β : Bt) (F : Fr) (h : Hp) (a : Act) (w : World), ST base w0 μe we μ β F h a w → codeK E C f n c F h k = some r → c.wp E.P Q a w
  | .skip, _, _, _, _, _, hQ, _, _, _, _, _, _, st, hk => wp_skip (hQ .normal _ _ _ _ _ _ st hk)
  | .label _, _, _, _, _, _, hQ, _, _, _, _, _, _, st, hk => wp_label (hQ .normal _ _ _ _ _ _ st hk)
  | .ret, _, _, _, _, _, hQ, _, _, _, _, _, _, st, hk => wp_ret (hQ .ret _ _ _ _ _ _ st hk)
  | .exit id, _, _, _, _, _, hQ, _, _, _, _, _, _, st, hk => wp_exit (hQ (.exit id) _ _ _ _ _ _ st hk)
  | .goto _, _, _, _, _, _, _, _, _, _, _, _, _, _, hk => by simp [codeK] at hk
  | .rangeFunc _ _ _ _, _, _, _, _, _, _, _, _, _, _, _, _, _, hk => by simp [codeK] at hk
  | .region id ops draw, hg, _, r, k, Q, hQ, μ, β, F, h, a, w, st, hk => by
    simp only [codeK] at hk
    cases draw with
    | false =>
      simp only at hk
      exact wp_region_list (opsK_some hN hC (fun μ β F h a w st hk => hQ .normal μ β F h a w st hk) ops.toList _ _ _ _ _ _ st hk)
    | true =>
      simp only at hk
      simp only [goodCode] at hg
      split at hk
      · rename_i s hs
        rw [hs] at hg
        exact draw_wp hN hC hm hg st hk (fun μ β F h a w st hk => hQ .normal μ β F h a w st hk) id
      · cases hk
  | .seq x y, hg, _, r, k, Q, hQ, μ, β, F, h, a, w, st, hk => by
    simp only [goodCode, Bool.and_eq_true] at hg
    simp only [codeK] at hk
    refine wp_seq (codeK_some hN hC hm x hg.1 (fun e μ β F h a w st hk => ?_) _ _ _ _ _ _ st hk)
    cases e with
    | normal => exact codeK_some hN hC hm y hg.2 hQ _ _ _ _ _ _ st hk
    | exit i => exact hQ (.exit i) _ _ _ _ _ _ st hk
    | ret => exact hQ .ret _ _ _ _ _ _ st hk
  | .cond c x y, hg, _, r, k, Q, hQ, μ, β, F, h, a, w, st, hk => by
    simp only [goodCode, Bool.and_eq_true] at hg
    cases c with
    | tmp t =>
      simp only [codeK] at hk
      split at hk
      · rename_i b hb
        have hsl := st.fr.slots t
        rw [hb] at hsl
        simp only [FVR, VR] at hsl
        have he : a.eval (.tmp t) = .bool b := hsl
        have hset : F.set t (.v (.bool b)) = F := by rw [← hb]; exact set_same (by rw [hb]; simp)
        cases b with
        | true =>
          simp only [hset] at hk
          exact wp_cond_true he (codeK_some hN hC hm x hg.1 hQ _ _ _ _ _ _ st hk)
        | false =>
          simp only [hset] at hk
          exact wp_cond_false he (codeK_some hN hC hm y hg.2 hQ _ _ _ _ _ _ st hk)
      · cases hk
    | const v =>
      cases v
      case bool b =>
        simp only [codeK] at hk
        cases b with
        | true => exact wp_cond_true rfl (codeK_some hN hC hm x hg.1 hQ _ _ _ _ _ _ st hk)
        | false => exact wp_cond_false rfl (codeK_some hN hC hm y hg.2 hQ _ _ _ _ _ _ st hk)
      all_goals simp [codeK] at hk
    | _ => simp [codeK] at hk
  | .block id c, hg, _, r, k, Q, hQ, μ, β, F, h, a, w, st, hk => by
    simp only [goodCode] at hg
    simp only [codeK] at hk
    refine wp_block (codeK_some hN hC hm c hg (fun e μ β F h a w st hk => ?_) _ _ _ _ _ _ st hk)
    cases e with
    | normal => exact hQ .normal _ _ _ _ _ _ st hk
    | ret => exact hQ .ret _ _ _ _ _ _ st hk
    | exit i =>
      simp only [exOf, Exit.inBlock]
      simp only at hk
      split at hk
      · rename_i hd
        rw [if_pos (of_decide_eq_true hd)]
        exact hQ .normal _ _ _ _ _ _ st hk
      · rename_i hd
        rw [if_neg (of_decide_eq_false hd)]
        exact hQ (.exit i) _ _ _ _ _ _ st hk
  | .scope c, hg, _, r, k, Q, hQ, μ, β, F, h, a, w, st, hk => by
    simp only [goodCode] at hg
    simp only [codeK] at hk
    refine wp_scope_straight (codeK_some hN hC hm c hg (fun e μ β F h a w st hk => ?_) _ _ _ _ _ _ st hk)
    cases e with
    | normal => exact hQ .normal _ _ _ _ _ _ st hk
    | ret => exact hQ .ret _ _ _ _ _ _ st hk
    | exit i => exact hQ (.exit i) _ _ _ _ _ _ st hk
  | .loop c, hg, _, r, k, Q, hQ, μ, β, F, h, a, w, st, hk => by
    simp only [goodCode] at hg
    simp only [codeK] at hk
    refine wp_loop_rounds n ?_
    have key : ∀ (m : Nat) (μ : Mu) (β : Bt) (F : Fr) (h : Hp) (a : Act) (w : World), ST base w0 μe we μ β F h a w →
        loopK (codeK E C f n c) (·.mask (E.live f ((firstRegion c).getD 0))) m F h k = some r → Code.rounds E.P c Q m a w := by
      intro m
      induction m with
      | zero => intro _ _ _ _ _ _ _ hk; simp [loopK] at hk
      | succ m ih =>
        intro μ β F h a w st hk
        simp only [loopK] at hk
        refine codeK_some hN hC hm c hg (fun e μ β F h a w st hk => ?_) _ _ _ _ _ _ st hk
        cases e with
        | normal => exact ih _ _ _ _ _ _ (st.mask _) hk
        | ret => exact hQ .ret _ _ _ _ _ _ st hk
        | exit i => exact hQ (.exit i) _ _ _ _ _ _ st hk
    exact key n _ _ _ _ _ _ (st.mask _) hk

/-! ### Results -/

theorem cell_result {t : TypeId} {c : Value} {v : Value} (h : (Instr.loadAt t c).run E.P w = .ok v w) : (do loadVar t (← asAddr c) : Sem Value).run E.P w = .ok v w := by
  cases c
  case pointer p =>
    cases p with
    | none => simp [Instr.loadAt, Instr.sureAddr, stuck, Sem.run] at h
    | some ad => simpa [Instr.loadAt, Instr.sureAddr, asAddr] using h
  all_goals simp [Instr.loadAt, Instr.sureAddr, stuck, Sem.run] at h

theorem resultsK_some (st : ST base w0 μe we μ β F h a w) {ρ : Type} : ∀ {l : List ResultVar} {k : List V → Option ρ} {r : ρ}, resultsK E.P F h l k = some r →
    ∃ vs cs, k vs = some r ∧ VRs μ vs cs ∧ (l.mapM fun | .tmp t => pure (a.tmps.getD t undef) | .cell c t => do loadVar t (← asAddr (a.tmps.getD c undef)) : Sem (List Value)).run E.P w = .ok cs w
  | [], k, r, hk => ⟨[], [], hk, VRs.nil, by simp⟩
  | .tmp t :: l, k, r, hk => by
    obtain ⟨v, hv, hk⟩ := asK_some hk
    obtain ⟨vs, cs, hk, hr, hrun⟩ := resultsK_some st hk
    have hs := st.fr.slots t
    rw [hv] at hs
    refine ⟨v :: vs, _ :: cs, hk, VRs.cons hs hr, ?_⟩
    simp only [List.mapM_cons, Sem.run_bind, Sem.run_pure, Result.andThen_ok, hrun]
  | .cell c t :: l, k, r, hk => by
    obtain ⟨x, y, hk, hx, hrun1⟩ := loadK_some st.hr st.fr (st.fr.slots c) hk
    obtain ⟨v, hv, hk⟩ := asK_some hk
    obtain ⟨vs, cs, hk, hr, hrun⟩ := resultsK_some st hk
    rw [hv] at hx
    refine ⟨v :: vs, y :: cs, hk, VRs.cons hx hr, ?_⟩
    have := cell_result hrun1
    simp only [List.mapM_cons, Sem.run_bind, Sem.run_pure, Result.andThen_ok, hrun] at this ⊢
    rw [this]
    simp only [Result.andThen_ok, hrun]
end
end Go.Ev
