/- THE LAW: what the evaluator says of a call, the machine does. -/
import Derived.Test.YtkgfoiinbnhpbaaEvY
import Derived.Test.YtkgfoiinbnhpbaaEvAC
namespace Go.Ev
open Go Go.RowKit

/-- What is asked of a program (each a closed fact). -/
structure ProgOK (E : Env) : Prop where
  noCount : NoCount E.P
  orders : E.P.follows .mixedOrders = true
  good : ∀ (f : FuncId) (fn : Func) (c : Code), E.P.funcs[f]? = some fn → fn.body = some c → goodCode E f c = true

def progB (E : Env) : Bool :=
  E.P.follows .mixedOrders && (E.P.funcs.toList.zipIdx).all fun p => !(p.1.name == "runtime.NumGoroutine") && match p.1.body with | some c => goodCode E p.2 c | none => true

theorem progB_spec {E : Env} (h : progB E = true) : ProgOK E := by
  simp only [progB, Bool.and_eq_true] at h
  obtain ⟨h1, h2⟩ := h
  have key : ∀ (f : FuncId) (fn : Func), E.P.funcs[f]? = some fn → (!(fn.name == "runtime.NumGoroutine") && match fn.body with | some c => goodCode E f c | none => true) = true := by
    intro f fn hf
    refine List.all_eq_true.1 h2 (fn, f) ?_
    rw [List.mem_zipIdx_iff_getElem?]
    simpa using hf
  refine ⟨fun f fn hf => ?_, h1, fun f fn c hf hc => ?_⟩
  · have := key f fn hf
    simp only [Bool.and_eq_true, Bool.not_eq_true'] at this
    exact this.1
  · have := key f fn hf
    simp only [hc, Bool.and_eq_true] at this
    exact this.2

section
variable {E : Env} {base : Nat} {w0 w : World} {μ : Mu} {h : Hp}

theorem start_fr {args : List V} {cargs : List Value} (hv : VRs μ args cargs) (m : Nat) :
    FR w.heap.size μ (fun _ => none) { tmps := args.map .v ++ List.replicate (m - args.length) .bot, vars := fun _ => none } { tmps := cargs.toArray ++ Array.replicate (m - cargs.toArray.size) undef, defers := [] } w := by
  have hl := hv.length
  refine ⟨rfl, by simp [hl], fun t => ?_, (fun d cs hd => by cases hd), (fun d d' cs cs' b h1 => by cases h1)⟩
  by_cases ht : t < args.length
  · have h1 : (Fr.get { tmps := args.map FV.v ++ List.replicate (m - args.length) .bot, vars := fun _ => none } t) = .v args[t] := by
      simp [Fr.get, List.getD_eq_getElem?_getD, List.getElem?_append, ht]
    obtain ⟨c, hc, hvc⟩ := hv.get (List.getElem?_eq_getElem ht)
    have ht' : t < cargs.length := by omega
    have h2 : (cargs.toArray ++ Array.replicate (m - cargs.toArray.size) undef).getD t undef = c := by
      rw [Array.getD_eq_getD_getElem?, Array.getElem?_append_left (by simpa using ht')]
      simp [hc]
    rw [h1, h2]
    exact hvc
  · have h1 : (Fr.get { tmps := args.map FV.v ++ List.replicate (m - args.length) .bot, vars := fun _ => none } t) = .bot := by
      simp only [Fr.get, List.getD_eq_getElem?_getD, List.getElem?_append, List.length_map, ht, if_false, List.getElem?_replicate]
      split <;> rfl
    rw [h1]
    trivial

theorem forceNat_eq {ρ : Type} (n : Nat) (k : Nat → Option ρ) : forceNat n k = k n := by cases n <;> rfl
theorem forceInt_eq {ρ : Type} (n : Int) (k : Int → Option ρ) : forceInt n k = k n := by cases n <;> simp [forceInt, forceNat_eq]
theorem forceBool_eq {ρ : Type} (n : Bool) (k : Bool → Option ρ) : forceBool n k = k n := by cases n <;> rfl
mutual
theorem forceV_eq {ρ : Type} : ∀ (v : V) (k : V → Option ρ), forceV v k = k v
  | .bool b, k => by simp [forceV, forceBool_eq]
  | .int kd n, k => by simp [forceV, forceInt_eq]
  | .ptr r g o, k => by simp [forceV, forceNat_eq]
  | .sl r g s o n, k => by simp [forceV, forceNat_eq]
  | .iface t v, k => by simp only [forceV]; rw [forceV_eq v]
  | .meth m v, k => by simp only [forceV]; rw [forceV_eq v]
  | .fn f l, k => by simp only [forceV]; rw [forceCells_eq l]
  | .agg l, k => by simp only [forceV]; rw [forceCells_eq l]
  | .tup l, k => by simp only [forceV]; rw [forceCells_eq l]
  | .str s, k => rfl
  | .nilp, k => rfl
  | .nils, k => rfl
  | .nilf, k => rfl
  | .niliface, k => rfl
theorem forceCells_eq {ρ : Type} : ∀ (l : List V) (k : List V → Option ρ), forceCells l k = k l
  | [], k => rfl
  | v :: l, k => by simp only [forceCells]; rw [forceV_eq v, forceCells_eq l]
end
theorem forceRow_eq {ρ : Type} (x : Option Row) (k : Option Row → Option ρ) : forceRow x k = k x := by
  cases x with
  | none => rfl
  | some x => simp [forceRow, forceCells_eq, forceNat_eq, forceBool_eq]
theorem normGo_eq {ρ : Type} (h : Hp) : ∀ (n : Nat) (acc : List (Option Row)) (k : List (Option Row) → Option ρ), normGo h n acc k = k ((List.range n).map h.rows ++ acc)
  | 0, acc, k => rfl
  | n + 1, acc, k => by simp only [normGo, forceRow_eq, normGo_eq h n, List.range_succ, List.map_append, List.map_cons, List.map_nil, List.append_assoc, List.cons_append, List.nil_append]
theorem nthRow_eq : ∀ (l : List (Option Row)) (i : Nat), nthRow l i = (l[i]?).getD none
  | [], i => by simp [nthRow]
  | a :: l, 0 => rfl
  | a :: l, i + 1 => by simp [nthRow, nthRow_eq l i]
theorem normK_eq {ρ : Type} (hr : HR base w0 μ h w) (k : Hp → Option ρ) : normK h k = k h := by
  unfold normK
  rw [forceNat_eq, normGo_eq]
  congr 1
  cases h with
  | mk rows next =>
    congr 1
    funext i
    rw [nthRow_eq]
    by_cases hi : i < next
    · simp [hi]
    · have := (hr.fresh i (Nat.le_of_not_lt hi)).1
      simp only at this
      simp [hi, this]

theorem body_ok (hP : ProgOK E) {f n : Nat} {C : AFun} {fn : Func} {args : List V} {v : V} {h' : Hp} {cargs : List Value} (hfn : E.P.funcs[f]? = some fn) (hC : CalleeOK E.P base w0 C) (he : bodyK E C f n fn args h = some (v, h'))
    (hr : HR base w0 μ h w) (hb : base ≤ w.heap.size) (hv : VRs μ args cargs) : Calls E.P f cargs.toArray w (CallOut base w0 μ w v h') := by
  unfold bodyK at he
  split at he
  · cases he
  · rename_i c hc
    refine calls_of_wp hfn hc ?_
    have st : ST base w0 μ w μ (fun _ => none) { tmps := args.map .v ++ List.replicate (fn.ntmps - args.length) .bot, vars := fun _ => none } h { tmps := cargs.toArray ++ Array.replicate (fn.ntmps - cargs.toArray.size) undef, defers := [] } w :=
      ⟨Mu.le_refl μ, fun k hk => .inl hk, fun k _ _ => rfl, Nat.le_refl _, hb, hr, start_fr hv _⟩
    refine codeK_some hP.noCount hC hP.orders c (hP.good f fn c hfn hc) (fun e ν β F h a w' st hk => ?_) _ _ _ _ _ _ st he
    have fin : (resultsK E.P F h fn.results.toList fun l => some (oneOrTup l, h)) = some (v, h') →
        a.defers = [] ∧ ∃ c, (results fn a.tmps).run E.P w' = .ok c w' ∧ CallOut base w0 μ w v h' (.returned c) w' := by
      intro hk
      obtain ⟨vs, cs, hk, hvs, hrun⟩ := resultsK_some st hk
      cases hk
      refine ⟨st.fr.defers, if h : cs.toArray.size = 1 then cs.toArray[0] else .tuple cs.toArray, ?_, ν, _, rfl, ?_, st.hr, st.le, st.grow, st.keep, st.size⟩
      · unfold results
        simp only [Array.mapM_eq_mapM_toList, Sem.run_bind, Sem.run_map]
        erw [hrun]
        simp
      · have hl := hvs.length
        cases vs with
        | nil =>
          have : cs = [] := hvs.of_nil
          subst this
          exact ⟨#[], rfl, VRs.nil⟩
        | cons x vs =>
          obtain ⟨c1, cs1, rfl, h1, h2⟩ := hvs.uncons
          cases vs with
          | nil =>
            have : cs1 = [] := by simpa using hl
            subst this
            simpa [oneOrTup] using h1
          | cons y vs =>
            have hne : ¬ ((c1 :: cs1).toArray.size = 1) := by simp at hl ⊢; intro h0; simp [h0] at hl
            rw [dif_neg hne]
            exact ⟨_, rfl, VRs.cons h1 h2⟩
    cases e with
    | exit i => cases hk
    | normal => exact fin hk
    | ret => exact fin hk

/-- **What the evaluator says of a call, the machine does.** -/
theorem ev_ok (hP : ProgOK E) : ∀ n, CalleeOK E.P base w0 (ev E n)
  | 0, _, _, _, _, _, he => by cases he
  | n + 1, f, args, h, v, h', he => by
    simp only [ev] at he
    split at he
    · rename_i fn hfn
      have some_body : ∀ {h1 : Hp}, bodyK E (ev E n) f n fn args h1 = some (v, h') → ∃ fn : Func, E.P.funcs[f]? = some fn ∧ fn.body.isSome = true := by
        intro h1 he
        unfold bodyK at he
        split at he
        · cases he
        · rename_i c hc
          exact ⟨fn, hfn, by simp [hc]⟩
      split at he
      · rw [forceCells_eq] at he
        refine ⟨?_, fun μ w cargs hr hb hv => ?_⟩
        · unfold normK at he
          rw [forceNat_eq, normGo_eq] at he
          exact some_body he
        · rw [normK_eq hr] at he
          exact body_ok hP hfn (ev_ok hP n) he hr hb hv
      · exact ⟨some_body he, fun μ w cargs hr hb hv => body_ok hP hfn (ev_ok hP n) he hr hb hv⟩
    · cases he

theorem some_body {fn : Func} {f n : Nat} {C : AFun} {args : List V} {h : Hp} {r : V × Hp} (he : bodyK E C f n fn args h = some r) : fn.body.isSome = true := by
  unfold bodyK at he
  split at he
  · cases he
  · rename_i c hc
    simp [hc]
/-- What the table's evaluator says of a call, the machine does. -/
theorem evT_ok (hP : ProgOK E) {tab : AFun → Nat → Tab} {norm : List Nat} (ht : ∀ C n, ∀ e ∈ tab C n, TabOK E C n e) : ∀ n, CalleeOK E.P base w0 (evT tab norm n)
  | 0, _, _, _, _, _, he => by cases he
  | n + 1, f, args, h, v, h', he => by
    simp only [evT] at he
    rw [forceCells_eq] at he
    split at he
    · have hd := he
      unfold normK at hd
      rw [forceNat_eq, normGo_eq] at hd
      obtain ⟨fn, hf, hb⟩ := atTab_ok (ht _ _) hd
      refine ⟨⟨fn, hf, some_body hb⟩, fun μ w cargs hr hb hv => ?_⟩
      rw [normK_eq hr] at he
      obtain ⟨fn', hf', he⟩ := atTab_ok (ht _ _) he
      exact body_ok hP hf' (evT_ok hP ht n) he hr hb hv
    · obtain ⟨fn, hf, he⟩ := atTab_ok (ht _ _) he
      exact ⟨⟨fn, hf, some_body he⟩, fun μ w cargs hr hb hv => body_ok hP hf (evT_ok hP ht n) he hr hb hv⟩
end
end Go.Ev
