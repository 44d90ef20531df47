/- copy, makes, calls; all operations. -/
import Derived.Test.YtkgfoiinbnhpbaaEvM
namespace Go.Ev
open Go Go.RowKit
section
variable {P : Program} {base : Nat} {w0 we w w' : World} {μe μ ν : Mu} {β : Bt} {F : Fr} {h h' : Hp} {a : Act} {ρ : Type} {K : Act → World → Prop} {Q : Exit → Act → World → Prop}

theorem copy_some (st : ST base w0 μe we μ β F h a w) {t u ty' e : TypeId} {i : TypeInfo} {cx : Value} {size n : Nat} {d : V} {c : Value} {cs : List V} {ds : List Value} {k : V → Hp → Option ρ} {r : ρ}
    (ht : P.underlying t = some (.slice e)) (hi : P.info? e = some i) (his : i.size = size) (hd : VR μ d c) (hcs : VRs μ cs ds) (hone : ∀ v ∈ cs, v.one = true) (hcl : cs.length = n * size)
    (hsrc : (cx = .slice none 0 0 ∧ n = 0) ∨ ∃ ad cap, cx = .slice (some ad) n cap ∧ ∀ (j : Nat) (c : Value), ds[j]? = some c → w.cell? (ad.add j) = some c)
    (hk : copyK size d cs n h k = some r) :
    ∃ v h' c' w', k v h' = some r ∧ VR μ v c' ∧ (Builtin.copy_ #[t, u] ty' #[c, cx]).run P w = .ok c' w' ∧ ST base w0 μe we μ β F h' a w' := by
  subst his
  have hdl := hcs.length
  have hsz := run_sizeOf w hi
  have hlen : (Builtin.lenOf cx).run P w = .ok n w := by
    rcases hsrc with ⟨rfl, rfl⟩ | ⟨ad, cap, rfl, _⟩ <;> simp [Builtin.lenOf]
  have hfirst : ∀ m, m ≤ n → (Builtin.firstCells i.size m cx).run P w = .ok (ds.take (m * i.size)).toArray w := by
    intro m hm
    rcases hsrc with ⟨rfl, rfl⟩ | ⟨ad, cap, rfl, hc⟩
    · have : ds = [] := List.eq_nil_of_length_eq_zero (by omega)
      subst this
      simp [Builtin.firstCells]
    · refine run_firstCells_some (P := P) w i.size m ad n cap _ ?_ ?_
      · have : m * i.size ≤ n * i.size := Nat.mul_le_mul_right _ hm
        simp; omega
      · intro j v hv
        rw [List.getElem?_take] at hv
        split at hv
        · exact hc j v hv
        · cases hv
  unfold copyK at hk
  split at hk
  · simp only [VR] at hd
    subst hd
    have h0 := hfirst 0 (by omega)
    refine ⟨_, _, .int .i64 0, w, hk, by simp only [VR], ?_, st⟩
    simp [Builtin.copy_, run_underlying ht, hlen, hsz, h0, goInt]
  · rename_i r' g s o m
    cases hrow : h.rows r' with
    | none => simp [hrow] at hk
    | some x =>
      simp only [hrow, Option.bind_some] at hk
      split at hk
      · rename_i hc
        obtain ⟨rfl, hnow, hog⟩ := hc
        simp only [VR] at hd
        obtain ⟨j, ad, cap, hj, rfl, hjs, hm, hoc, hgc, had⟩ := hd
        obtain ⟨hclean, hgl, hro⟩ := hnow
        obtain ⟨hjx, hgcap, _⟩ := st.hr.view r' x hrow g j hj hclean
        have hxs : x.size = i.size := by omega
        have hxl : x.cells.length = g * i.size := by rw [← hgl, hxs]
        have hkn : min n m ≤ n := Nat.min_le_left _ _
        have hkm : min n m ≤ m := Nat.min_le_right _ _
        have htl : (cs.take (min n m * i.size)).length = min n m * i.size := by
          have : min n m * i.size ≤ n * i.size := Nat.mul_le_mul_right _ hkn
          simp; omega
        obtain ⟨cur, e2, hblk, hbb, hfit, hr'⟩ := st.hr.storeRow (o := o * i.size) hrow hj ⟨hclean, hgl, hro⟩ (hcs.take (min n m * i.size)) (fun v hv => hone v (List.mem_of_mem_take hv))
          (by rw [htl, hxl, ← Nat.add_mul]; exact Nat.mul_le_mul_right _ (by omega))
        have h0 := hfirst (min n m) hkn
        have hst : (storeCells ad (ds.take (min n m * i.size))).run P w = .ok () (w.setRow j.blk (cur.toList.take (j.base + o * i.size) ++ ds.take (min n m * i.size) ++ cur.toList.drop (j.base + o * i.size + (ds.take (min n m * i.size)).length)).toArray) := by
          by_cases hm0 : m = 0
          · subst hm0
            have hz : ds.take (min n 0 * i.size) = [] := by simp
            rw [hz]
            simp only [List.append_nil, List.length_nil, Nat.add_zero, List.take_append_drop, Array.toArray_toList]
            rw [setRow_self w _ cur e2 (0, 0) hblk]
            simp [storeCells]
          · have had := had (by omega)
            subst had
            have := run_storeCells_at P j.blk (j.base + o * i.size) e2 (ds.take (min n m * i.size)) 0 cur w hblk (by simpa using hfit) ((hcs.take _).ones fun v hv => hone v (List.mem_of_mem_take hv))
            simp only [Nat.add_zero] at this
            exact this
        refine ⟨_, _, .int .i64 (min n m : Nat), _, hk, ?_, ?_, st.heap hr' (Mu.le_refl μ) (fun k hk => .inl hk) (fun k _ hn => setRow_other w _ _ _ fun he => hn ⟨r', g, j, hj, he.symm⟩) (by rw [size_setRow]; exact Nat.le_refl _)⟩
        · simp only [VR]
        · have e1 : Nat.min n m = min n m := rfl
          simp [Builtin.copy_, run_underlying ht, hlen, hsz, h0, hst, goInt, e1]
      · cases hk
  · cases hk

theorem afollow_some {f1 : List FieldStep} : ∀ {t : TypeId} {x : V} {c : Value} {out : TypeId × V}, afollow P f1 t x = some out → VR μ x c →
    ∃ d, VR μ out.2 d ∧ ∀ w, (follow f1 t (.val c)).run P w = .ok (out.1, .val d) w := by
  induction f1 with
  | nil =>
    intro t x c out h hx
    simp only [afollow, Option.some.injEq] at h
    subst h
    exact ⟨c, hx, fun w => by simp [follow]⟩
  | cons s rest ih =>
    intro t x c out h hx
    unfold afollow at h
    split at h
    · rename_i hder
      split at h
      · rename_i p hp
        unfold fieldOfT at hp
        split at hp
        · rename_i fs hu
          split at hp
          · rename_i f hf
            split at hp
            · rename_i q hq
              cases hp
              simp only [VR] at hx
              obtain ⟨ds, rfl, hds, ho⟩ := hx
              -- the part's value
              have hpart : ∀ w, ∃ v c, (afollow P rest f.type v = some out) ∧ VR μ v c ∧ (part f.type ds f.offset).run P w = .ok c w := fun w => partK_some hds ho hq f.offset h w
              obtain ⟨v, c, h1, h2, h3⟩ := hpart default
              obtain ⟨d, hd, hrun⟩ := ih h1 h2
              refine ⟨d, hd, fun w => ?_⟩
              obtain ⟨t1, t2, _⟩ := ty_spec hq w
              obtain ⟨t1', t2', _⟩ := ty_spec hq default
              -- the part does not look at the world
              have h3' : (part f.type ds f.offset).run P w = .ok c w := by
                unfold part at h3 ⊢
                simp only [Sem.run_bind, t1, t2, t1', t2', Result.andThen_ok] at h3 ⊢
                cases hq1 : q.1 with
                | true => simp [hq1, t2, t2'] at h3 ⊢; exact h3
                | false =>
                  simp only [hq1, Bool.false_eq_true, if_false] at h3 ⊢
                  cases hv : ds[f.offset]? with
                  | none => simp [hv, stuck, Sem.run] at h3
                  | some v => simp [hv] at h3 ⊢; exact h3
              simp [follow, run_underlying hu, hf, hder, h3', hrun]
            · cases hp
          · cases hp
        · cases hp
      · cases h
    · cases h

theorem amethod_some {t : TypeId} {v : V} {c : Value} {name : String} {fr : FuncId × V} (h : amethod P t v name = some fr) (hv : VR μ v c) (n : Nat) :
    ∃ d, VR μ fr.2 d ∧ ∀ w, (method (n + 1) t c name).run P w = .ok (fr.1, d) w := by
  unfold amethod at h
  split at h
  · rename_i i hi
    split at h
    · rename_i m hm
      split at h
      · rename_i fp hfp
        split at h
        · rename_i x hx
          obtain ⟨d, hd, hrun⟩ := afollow_some hx hv
          split at h
          · rename_i e hu hp
            cases h
            refine ⟨d, hd, fun w => ?_⟩
            simp [method, typeInfo, hi, hm, hfp, hrun, receiverAt, run_underlying hu, hp, Place.get]
          · cases h
          · rename_i dsc hn hu hp
            cases h
            refine ⟨d, hd, fun w => ?_⟩
            simp only [method, typeInfo, hi, hm, hfp, Sem.run_bind, run_program, Result.andThen_ok, Sem.run_pure, hrun, receiverAt, run_underlying hu, hp]
            cases dsc <;> first
              | (rename_i e; exact absurd hu (hn e))
              | simp [Place.get]
          · cases h
        · cases h
      · cases h
    · cases h
  · cases h

/-- A call: the model enters the function. -/
theorem callK_some (hN : NoCount P) (st : ST base w0 μe we μ β F h a w) {C : AFun} (hC : CalleeOK P base w0 C) {c : Call} {k : V → Hp → Option ρ} {r : ρ} (hk : callK P C c F.eval h k = some r) :
    ∃ f args cargs v h', k v h' = some r ∧ C f args h = some (v, h') ∧ VRs μ args cargs ∧ ∀ o : Oper, o.op = .call c → (execOp a.eval o).run P w = .ok (.enter f cargs.toArray) w := by
  have hε : ∀ x, FVR μ β (F.eval x) (a.eval x) := eval_rel st.fr
  unfold callK at hk
  obtain ⟨args, hk, hargs⟩ := argsK_some hε hk
  have enter : ∀ {f : FuncId} {args : List V} {v : V} {h' : Hp}, C f args h = some (v, h') → ∀ cargs : Array Value, (callFunc f cargs).run P w = .ok (.enter f cargs) w := by
    intro f args v h' hc cargs
    obtain ⟨⟨fn, hf, hb⟩, _⟩ := hC f args h v h' hc
    have hn := hN f fn hf
    have hb' : fn.body.isNone = false := by cases hbb : fn.body <;> simp_all
    simp only [callFunc, Sem.run_bind, run_program, Result.andThen_ok, hf, hn, hb', Bool.false_eq_true, if_false, Sem.run_pure]
  split at hk
  · rename_i f hcal
    have hf := hε f
    split at hk
    · rename_i g caps hfe
      rw [hfe] at hf
      simp only [FVR, VR] at hf
      obtain ⟨cs, hf, hcs⟩ := hf
      cases hcall : C g (args ++ caps) h with
      | none => simp [hcall] at hk
      | some p =>
        simp only [hcall, Option.bind_some] at hk
        refine ⟨g, args ++ caps, (c.args.toList.map a.eval) ++ cs.toList, p.1, p.2, hk, hcall, hargs.append hcs, fun o ho => ?_⟩
        have e1 := enter hcall ((c.args.map a.eval) ++ cs)
        have e2 : ((c.args.toList.map a.eval) ++ cs.toList).toArray = (c.args.map a.eval) ++ cs := by apply Array.ext'; simp
        rw [e2]
        simp [execOp, ho, resolve, hcal, hf, Deferred.ofValue, invoke, e1]
    · cases hk
  · rename_i recv name hcal
    have hrv := hε recv
    split at hk
    · rename_i t v hre
      rw [hre] at hrv
      simp only [FVR, VR] at hrv
      obtain ⟨u, hrv, hvu⟩ := hrv
      split at hk
      · rename_i fr hfr
        cases hcall : C fr.1 (fr.2 :: args) h with
        | none => simp [hcall] at hk
        | some p =>
          simp only [hcall, Option.bind_some] at hk
          obtain ⟨d, hd, hrun⟩ := amethod_some hfr hvu (P.types.size + Made.depth - 1)
          have hd0 : 0 < Made.depth := by decide
          have hfuel : P.types.size + Made.depth - 1 + 1 = P.types.size + Made.depth := by omega
          rw [hfuel] at hrun
          refine ⟨fr.1, fr.2 :: args, d :: c.args.toList.map a.eval, p.1, p.2, hk, hcall, VRs.cons hd hargs, fun o ho => ?_⟩
          have e1 := enter hcall (#[d] ++ c.args.map a.eval)
          have e2 : (d :: c.args.toList.map a.eval).toArray = #[d] ++ c.args.map a.eval := by apply Array.ext'; simp
          have e3 : (Array.map a.eval c.args).extract 0 c.args.size = Array.map a.eval c.args := by
            have hs : c.args.size = (Array.map a.eval c.args).size := by simp
            rw [hs, Array.extract_size]
          have e4 : (#[Value.iface t u] ++ Array.map a.eval c.args)[0]? = some (Value.iface t u) := by
            rw [Array.getElem?_append_left (by simp)]; rfl
          rw [e2]
          simp [execOp, ho, resolve, hcal, hrv, invoke, callMethod, hrun, e1, e3, e4]
      · cases hk
    · cases hk
  · cases hk
end
end Go.Ev
