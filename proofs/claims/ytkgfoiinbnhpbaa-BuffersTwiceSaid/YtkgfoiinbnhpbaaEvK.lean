/- Each operation is simulated. -/
import Derived.Test.YtkgfoiinbnhpbaaEvJ
namespace Go.Ev
open Go Go.RowKit

/-- What a call comes to. -/
def CallOut (base : Nat) (w0 : World) (μ : Mu) (w : World) (v : V) (h' : Hp) (e : Ending) (w' : World) : Prop :=
  ∃ ν c, e = .returned c ∧ VR ν v c ∧ HR base w0 ν h' w' ∧ μ.le ν ∧ (∀ k, img ν k → img μ k ∨ w.heap.size ≤ k) ∧ (∀ k, k < w.heap.size → ¬ img μ k → w'.heap[k]? = w.heap[k]?) ∧ w.heap.size ≤ w'.heap.size

/-- Callees are simulated. -/
def CalleeOK (P : Program) (base : Nat) (w0 : World) (C : AFun) : Prop :=
  ∀ f args h v h', C f args h = some (v, h') → (∃ fn : Func, P.funcs[f]? = some fn ∧ fn.body.isSome = true) ∧
    ∀ μ w cargs, HR base w0 μ h w → base ≤ w.heap.size → VRs μ args cargs → Calls P f cargs.toArray w (CallOut base w0 μ w v h')

/-- No function of the program is the runtime's counter of goroutines. -/
def NoCount (P : Program) : Prop := ∀ (f : FuncId) (fn : Func), P.funcs[f]? = some fn → (fn.name == "runtime.NumGoroutine") = false

section
variable {P : Program} {base : Nat} {w0 we w w' : World} {μe μ ν : Mu} {β : Bt} {F : Fr} {h h' : Hp} {a : Act} {ρ : Type} {K : Act → World → Prop} {Q : Exit → Act → World → Prop}

theorem wp_value {o : Oper} {c : Value} (hr : (execOp a.eval o).run P w = .ok (.value c) w') (hk : K (a.put o.dst c) w') : o.wp P a w K Q := by
  unfold Oper.wp
  rw [hr]
  exact hk
theorem wp_skip' {o : Oper} (hr : (execOp a.eval o).run P w = .ok .skip w') (hk : K (a.put o.dst undef) w') : o.wp P a w K Q := by
  unfold Oper.wp
  rw [hr]
  exact hk
theorem wp_enter {o : Oper} {f : FuncId} {args : Array Value} {R : Ending → World → Prop} (hr : (execOp a.eval o).run P w = .ok (.enter f args) w) (hc : Calls P f args w R)
    (hk : ∀ e w', R e w' → ∃ c, e = .returned c ∧ K (a.put o.dst c) w') : o.wp P a w K Q := by
  unfold Oper.wp
  rw [hr]
  simp only [Oper.upon]
  refine hc.mono fun e w' hR => ?_
  obtain ⟨c, rfl, h⟩ := hk e w' hR
  exact h

theorem zeroArr {t : TypeId} {z : List V} (hz : zeroCells P t = some z) : ∃ i zv, P.info? t = some i ∧ i.zero = some zv ∧ (∀ μ, VRs μ z zv.cells.toList) ∧ (∀ v ∈ z, v.one = true) ∧ ∀ w, (zeroValue t).run P w = .ok zv w := by
  obtain ⟨i, zv, h1, h2, h3⟩ := zeroCells_spec hz
  exact ⟨i, zv, h1, h2, fun μ => (h3 μ).1, (h3 (fun _ _ => none)).2, fun w => by simp [zeroValue, typeInfo, h1, h2]⟩

theorem elemInfo_spec {t : TypeId} {q : TypeId × Nat × Nat} (h : elemInfo P t = some q) :
    P.underlying t = some (.slice q.1) ∧ ∃ i zv, P.info? q.1 = some i ∧ i.size = q.2.1 ∧ i.bytes = q.2.2 ∧ 0 < q.2.1 ∧ i.zero = some zv ∧ zv.cells.size = i.size := by
  unfold elemInfo elemOf at h
  cases hu : P.underlying t with
  | none => simp [hu] at h
  | some d =>
    rw [hu] at h
    cases d <;> simp only [reduceCtorEq] at h
    rename_i e
    split at h
    · rename_i z hz
      split at h
      · rename_i hd
        cases h
        obtain ⟨hd, hp⟩ := of_decide_eq_true hd
        obtain ⟨i, zv, hi, hzv, hrel⟩ := zeroCells_spec hz
        have hl := (hrel (fun _ _ => none)).1.length
        have hs : i.size = z.length := by simpa [sizeOf, Program.cellsOf, hi] using hd
        refine ⟨rfl, i, zv, hi, hs, ?_, hp, hzv, ?_⟩
        · simp [Program.bytesOf, hi]
        · simp at hl; omega
      · cases h
    · cases h

theorem run_newVar (t : TypeId) (v : Value) (w : World) : (newVar t v).run P w = .ok ⟨w.heap.size, 0, none⟩ (w.alloc (.cells v.cells t)) := by
  simp [newVar, newRow, newObj, Sem.run]

/-- A new row, whose place goes to a slot. -/
theorem ST.newRow (st : ST base w0 μe we μ β F h a w) {x : Row} {arr : Array Value} {e : TypeId} {g cap : Nat} (hro : x.ro = false) (hone : ∀ v ∈ x.cells, v.one = true)
    (hg : g * x.size = x.cells.length) (hcap : g ≤ cap) (hsz : arr.size = cap * x.size) (hv : ∀ (j : Nat) (v : V), x.cells[j]? = some v → ∃ c, arr[j]? = some c ∧ VR μ v c) :
    ST base w0 μe we (μ.ext h.next g ⟨w.heap.size, 0, cap, x.size⟩) β F (h.new x) a (w.alloc (.cells arr e)) := by
  obtain ⟨h1, h2⟩ := st.hr.newRow (Nat.le_trans st.bas st.size) (e := e) hro hone hg hcap hsz hv
  refine st.heap h1 h2 (fun k hk => ?_) (fun k hk _ => heap_alloc_old w _ k hk) (by simp)
  rcases Mu.ext_img hk with hk | rfl
  · exact .inl hk
  · exact .inr (Nat.le_refl _)

theorem ST.newVar (st : ST base w0 μe we μ β F h a w) {d : Nat} {cs : List V} {arr : Array Value} {e : TypeId} {x : FV} {c : Value} (hself : anySelf d (F.tmps.set d .bot) = false)
    (hone : ∀ v ∈ cs, v.one = true) (hv : VRs μ cs arr.toList) (hx : ∀ β' : Bt, β' d = some w.heap.size → FVR μ β' x c) :
    ST base w0 μe we μ (fun i => if i = d then some w.heap.size else β i) ((F.setVar d cs).set d x) h (a.put (some d) c) (w.alloc (.cells arr e)) :=
  ⟨st.le, st.grow, fun k hk hn => by rw [heap_alloc_old w _ k (Nat.lt_of_lt_of_le hk st.size)]; exact st.keep k hk hn, by simp; have := st.size; omega, st.bas,
    st.hr.move ((Below.refl _ _).alloc (Nat.le_trans st.bas st.size) _) fun k hk => heap_alloc_old w _ k (st.hr.imgb k hk),
    st.fr.newVar st.size hself hone hv st.hr.imgb hx⟩

theorem VRs.getArr {cs : List V} {arr : Array Value} (h : VRs μ cs arr.toList) (j : Nat) (v : V) (e : cs[j]? = some v) : ∃ c, arr[j]? = some c ∧ VR μ v c := by
  obtain ⟨c, hc, hv⟩ := h.get e
  exact ⟨c, by simpa using hc, hv⟩

theorem run_storeAt {t : TypeId} {q : Bool × Nat} (hq : ty P t = some q) (b o : Nat) {c : Value} (hcs : c.cells.size = q.2) {cur : Array Value} {e : TypeId} (hb : w.heap[b]? = some (.cells cur e (0, 0))) (hle : o + q.2 ≤ cur.size)
    (h1 : ∀ v ∈ c.cells.toList, v.oneCell' = true) :
    (Instr.storeAt t (.pointer (some ⟨b, o, none⟩)) c).run P w = .ok () (w.setRow b (cur.toList.take o ++ c.cells.toList ++ cur.toList.drop (o + c.cells.toList.length)).toArray) := by
  obtain ⟨_, h2, _⟩ := ty_spec hq w
  have hst := run_storeCells_at P b o e c.cells.toList 0 cur w hb (by simp; omega) h1
  simp only [Nat.add_zero] at hst
  simp [Instr.storeAt, Instr.sureAddr, storeVar, h2, hcs, hst]

/-- A store. -/
theorem store_some (st : ST base w0 μe we μ β F h a w) {t : TypeId} {x : FV} {cx : Value} {v : V} {c : Value} {k : Fr → Hp → Option ρ} {r : ρ} (hx : FVR μ β x cx) (hv : VR μ v c) (hk : storeK P t x v F h k = some r) :
    ∃ F' h' w', k F' h' = some r ∧ (Instr.storeAt t cx c).run P w = .ok () w' ∧ ST base w0 μe we μ β F' h' a w' := by
  unfold storeK at hk
  split at hk
  · cases hk
  · rename_i q hq
    split at hk
    · rename_i hd
      obtain ⟨htup, hlen⟩ := of_decide_eq_true hd
      obtain ⟨hcs, hco⟩ := hv.cells htup
      have hcl := hcs.length
      have hcsz : c.cells.size = q.2 := by simp at hcl; omega
      split at hk
      · rename_i r' g o
        cases hrow : h.rows r' with
        | none => simp [hrow] at hk
        | some y =>
          simp only [hrow, Option.bind_some] at hk
          split at hk
          · rename_i hc
            simp only [FVR, VR] at hx
            obtain ⟨i, hi, rfl⟩ := hx
            obtain ⟨cur, e, hb, hbb, hfit, hr'⟩ := st.hr.storeRow hrow hi hc.1 hcs hco hc.2
            have hrun := run_storeAt (P := P) (w := w) hq i.blk (i.base + o) hcsz hb (by simp at hfit; omega) (hcs.ones hco)
            refine ⟨F, _, _, hk, hrun, ?_⟩
            refine st.heap hr' (Mu.le_refl μ) (fun k hk => .inl hk) (fun k _ hn => setRow_other w _ _ _ fun he => hn ⟨r', g, i, hi, he.symm⟩) (by rw [size_setRow]; exact Nat.le_refl _)
          · cases hk
      · rename_i d o
        cases hvar : F.vars d with
        | none => simp [hvar] at hk
        | some cs =>
          simp only [hvar, Option.bind_some] at hk
          split at hk
          · rename_i hle
            simp only [FVR] at hx
            obtain ⟨b', hb', rfl⟩ := hx
            obtain ⟨b, hb, heb, hbs, hnimg, hone, cur, e, hblk, hcur⟩ := st.fr.vars d cs hvar
            rw [hb] at hb'
            have hbe := Option.some.inj hb'
            subst hbe
            have hcurl := hcur.length
            have hrun := run_storeAt (P := P) (w := w) hq b o hcsz hblk (by simp at hcurl; omega) (hcs.ones hco)
            have hb1 : base ≤ b := Nat.le_trans st.bas heb
            refine ⟨_, h, _, hk, hrun, ?_⟩
            refine ⟨st.le, st.grow, fun k hk hn => ?_, by rw [size_setRow]; exact st.size, st.bas, st.hr.move (below_setRow (Below.refl _ _) hb1 _) fun k hk => setRow_other w _ _ _ fun he => hnimg (he ▸ hk), ?_⟩
            · rw [setRow_other w _ _ _ (by omega)]; exact st.keep k hk hn
            · refine st.fr.setVar hvar hb (by rw [size_setRow]; exact Nat.le_refl _) (fun k _ hne => setRow_other w _ _ _ hne) (setRow_heap w b cur _ e _ hblk) (fun v hv => ?_) ?_
              · unfold splice at hv
                rcases List.mem_append.1 hv with hv | hv
                · rcases List.mem_append.1 hv with hv | hv
                  · exact hone v (List.mem_of_mem_take hv)
                  · exact hco v hv
                · exact hone v (List.mem_of_mem_drop hv)
              · simpa using hcur.splice hcs o
          · cases hk
      · cases hk
    · cases hk
end
end Go.Ev
