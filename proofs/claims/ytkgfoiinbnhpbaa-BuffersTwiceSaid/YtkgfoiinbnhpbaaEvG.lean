/- The relation of a frame, a heap and a world; operations that read. -/
import Derived.Test.YtkgfoiinbnhpbaaEvF
namespace Go.Ev
open Go Go.RowKit

structure FR (eb : Nat) (μ : Mu) (β : Bt) (F : Fr) (a : Act) (w : World) : Prop where
  defers : a.defers = []
  size : F.tmps.length = a.tmps.size
  slots : ∀ t, FVR μ β (F.get t) (a.tmps.getD t undef)
  vars : ∀ d cs, F.vars d = some cs → ∃ b, β d = some b ∧ eb ≤ b ∧ b < w.heap.size ∧ ¬ img μ b ∧ (∀ v ∈ cs, v.one = true) ∧ ∃ c e, w.heap[b]? = some (.cells c e (0, 0)) ∧ VRs μ cs c.toList
  inj : ∀ d d' cs cs' b, F.vars d = some cs → F.vars d' = some cs' → β d = some b → β d' = some b → d = d'

/-- All that is carried through a function's body: 'e' marks what held when the function was entered. -/
structure ST (base : Nat) (w0 : World) (μe : Mu) (we : World) (μ : Mu) (β : Bt) (F : Fr) (h : Hp) (a : Act) (w : World) : Prop where
  le : μe.le μ
  grow : ∀ k, img μ k → img μe k ∨ we.heap.size ≤ k
  keep : ∀ k, k < we.heap.size → ¬ img μe k → w.heap[k]? = we.heap[k]?
  size : we.heap.size ≤ w.heap.size
  bas : base ≤ we.heap.size
  hr : HR base w0 μ h w
  fr : FR we.heap.size μ β F a w

section
variable {P : Program} {base : Nat} {w0 we w w' : World} {μe μ : Mu} {β : Bt} {F : Fr} {h : Hp} {a : Act}

theorem FVR.mono {ν : Mu} (hle : μ.le ν) {x : FV} {c : Value} (hx : FVR μ β x c) : FVR ν β x c := by
  cases x with
  | bot => trivial
  | v x => exact VR.mono hle x c hx
  | self d o => exact hx
  | lit d n => exact hx

theorem eval_rel {eb : Nat} (hf : FR eb μ β F a w) (x : Operand) : FVR μ β (F.eval x) (a.eval x) := by
  cases x with
  | tmp t => exact hf.slots t
  | const c => exact ofConst_rel μ β c
  | func f => simp [Fr.eval, Act.eval, FVR, VR, VRs]
  | global g => trivial

theorem get_set (F : Fr) (d t : Nat) (x : FV) : (F.set d x).get t = if t = d ∧ d < F.tmps.length then x else F.get t := by
  unfold Fr.set Fr.get
  simp only [List.getD_eq_getElem?_getD, List.getElem?_set]
  split
  · rename_i e
    subst e
    by_cases hl : d < F.tmps.length
    · simp [hl]
    · simp [hl, List.getElem?_eq_none (by omega : F.tmps.length ≤ d)]
  · rename_i e
    rw [if_neg (by omega)]

theorem FR.put {eb : Nat} (hf : FR eb μ β F a w) (d : Option Nat) {x : FV} {c : Value} (hx : FVR μ β x c) : FR eb μ β (F.put d x) (a.put d c) w := by
  cases d with
  | none => exact hf
  | some d =>
    refine ⟨hf.defers, by simp [Fr.put, Fr.set, Act.put, hf.size], fun t => ?_, hf.vars, hf.inj⟩
    show FVR μ β ((F.set d x).get t) ((a.tmps.setIfInBounds d c).getD t undef)
    rw [get_set]
    have hs := hf.size
    by_cases hc : t = d ∧ d < F.tmps.length
    · rw [if_pos hc]
      obtain ⟨rfl, hl⟩ := hc
      have : t < a.tmps.size := by omega
      simpa [this] using hx
    · rw [if_neg hc]
      have hg : (a.tmps.setIfInBounds d c).getD t undef = a.tmps.getD t undef := by
        simp only [Array.getD_eq_getD_getElem?, Array.getElem?_setIfInBounds]
        split
        · rename_i e
          subst e
          have : ¬ d < a.tmps.size := by omega
          simp [this]
        · rfl
      rw [hg]
      exact hf.slots t

theorem ST.put (st : ST base w0 μe we μ β F h a w) (d : Option Nat) {x : FV} {c : Value} (hx : FVR μ β x c) : ST base w0 μe we μ β (F.put d x) h (a.put d c) w :=
  ⟨st.le, st.grow, st.keep, st.size, st.bas, st.hr, st.fr.put d hx⟩

/-- A world that holds the same in all blocks that views lie in. -/
theorem HR.move (hr : HR base w0 μ h w) (hb : Below base w w') (hk : ∀ k, img μ k → w'.heap[k]? = w.heap[k]?) : HR base w0 μ h w' := by
  refine ⟨hr.below.trans hb, hr.fresh, hr.ones, hr.len, fun r x hx g i hi hc => ?_, fun r x hx ho g i hi hc hg => ?_, hr.same, hr.apart, fun k hk' => Nat.lt_of_lt_of_le (hr.imgb k hk') hb.size⟩
  · obtain ⟨h1, h2, h3⟩ := hr.view r x hx g i hi hc
    refine ⟨h1, h2, fun j v hj hv => ?_⟩
    obtain ⟨c, hc, hvc⟩ := h3 j v hj hv
    refine ⟨c, ?_, hvc⟩
    rw [← hc]
    exact World.cell?_of_block (hk i.blk ⟨r, g, i, hi, rfl⟩)
  · obtain ⟨h2, c, e, h3, h4⟩ := hr.own r x hx ho g i hi hc hg
    exact ⟨h2, c, e, by rw [hk i.blk ⟨r, g, i, hi, rfl⟩]; exact h3, h4⟩

theorem FR.move {eb : Nat} (hf : FR eb μ β F a w) (hs : w.heap.size ≤ w'.heap.size) (hk : ∀ d cs b, F.vars d = some cs → β d = some b → w'.heap[b]? = w.heap[b]?) : FR eb μ β F a w' := by
  refine ⟨hf.defers, hf.size, hf.slots, fun d cs hd => ?_, hf.inj⟩
  obtain ⟨b, h1, h2, h3, h4, h5, c, e, h6, h7⟩ := hf.vars d cs hd
  exact ⟨b, h1, h2, Nat.lt_of_lt_of_le h3 hs, h4, h5, c, e, by rw [hk d cs b hd h1]; exact h6, h7⟩

/-- The values that lie where some values are said to lie. -/
theorem collect (b : Nat) : ∀ (vs : List V) (o : Nat), (∀ (j : Nat) (v : V), vs[j]? = some v → ∃ c, w.cell? ⟨b, o + j, none⟩ = some c ∧ VR μ v c) →
    ∃ ds : List Value, VRs μ vs ds ∧ ∀ (j : Nat) (c : Value), ds[j]? = some c → w.cell? ⟨b, o + j, none⟩ = some c
  | [], _, _ => ⟨[], VRs.nil, by simp⟩
  | v :: vs, o, hv => by
    obtain ⟨c, hc, hvc⟩ := hv 0 v rfl
    obtain ⟨ds, h1, h2⟩ := collect b vs (o + 1) fun j u hu => by
      obtain ⟨c, hc, hvc⟩ := hv (j + 1) u (by simpa using hu)
      exact ⟨c, by rw [Nat.add_assoc, Nat.add_comm 1 j]; exact hc, hvc⟩
    refine ⟨c :: ds, VRs.cons hvc h1, fun j d hd => ?_⟩
    cases j with
    | zero => simp at hd; subst hd; exact hc
    | succ j =>
      have := h2 j d (by simpa using hd)
      rw [Nat.add_assoc, Nat.add_comm 1 j] at this
      exact this

theorem run_loadAt {ρ : Type} {t : TypeId} {q : Bool × Nat} (hq : ty P t = some q) (b p o : Nat) {cs : List V} (ho : ∀ v ∈ cs, v.one = true) (hlen : o + q.2 ≤ cs.length ∨ q.1 = false)
    (hc : ∀ (j : Nat) (v : V), (q.1 = true → j < o + q.2) → cs[j]? = some v → (q.1 = false → j = o) → ∃ c, w.cell? ⟨b, p + j, none⟩ = some c ∧ VR μ v c)
    {k : V → Option ρ} {r : ρ} (hk : partK q.1 q.2 cs o k = some r) :
    ∃ v c, k v = some r ∧ VR μ v c ∧ (Instr.loadAt t (.pointer (some ⟨b, p + o, none⟩))).run P w = .ok c w := by
  obtain ⟨h1, h2, _⟩ := ty_spec hq w
  unfold partK at hk
  split at hk
  · rename_i e
    split at hk
    · rename_i hle
      obtain ⟨ds, hr, hd⟩ := collect (w := w) (μ := μ) b ((cs.drop o).take q.2) (p + o) fun j v hv => by
        rw [List.getElem?_take] at hv
        split at hv
        · rename_i hj
          rw [List.getElem?_drop] at hv
          have := hc (o + j) v (fun _ => by omega) hv (by simp [e])
          rw [← Nat.add_assoc] at this
          exact this
        · cases hv
      have hdl : ds.length = q.2 := by have := hr.length; simp at this; omega
      refine ⟨_, .agg ds.toArray, hk, ?_, ?_⟩
      · simp only [VR]
        exact ⟨_, rfl, hr, fun v hv => ho v (List.mem_of_mem_drop (List.mem_of_mem_take hv))⟩
      · have hl := run_loadCells_list (P := P) w ⟨b, p + o, none⟩ ds fun j v hj => by rw [addr_add]; exact hd j v hj
        rw [hdl] at hl
        simp [Instr.loadAt, Instr.sureAddr, loadVar, h1, h2, e, hl]
    · cases hk
  · rename_i e
    cases hv : cs[o]? with
    | none => simp [hv] at hk
    | some v =>
      simp only [hv, Option.bind_some] at hk
      obtain ⟨c, hcc, hvc⟩ := hc o v (by simp [e]) hv (fun _ => rfl)
      refine ⟨v, c, hk, hvc, ?_⟩
      simp [Instr.loadAt, Instr.sureAddr, loadVar, h1, e, load, Sem.run, hcc]
end
end Go.Ev
