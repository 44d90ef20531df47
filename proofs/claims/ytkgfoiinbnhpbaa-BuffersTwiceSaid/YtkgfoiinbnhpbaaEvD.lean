/- Operations that look at the frame's slots alone, each: the model's run is what the evaluator says. -/
import Derived.Test.YtkgfoiinbnhpbaaEvC
namespace Go.Ev
open Go Go.RowKit
section
variable {P : Program} {μ : Mu} {β : Bt} {ρ : Type}

theorem intK_some {op : BinOp} {kd : IntKind} {a b : Int} {k : V → Option ρ} {r : ρ} (h : intK op kd a b k = some r) (t : TypeId) (w : World) (ox oy : Operand) :
    ∃ v c, k v = some r ∧ VR μ v c ∧ (do eqGuard op t ox oy (.int kd a) (.int kd b); binOp op t (.int kd a) (.int kd b) : Sem Value).run P w = .ok c w := by
  have hg : (eqGuard op t ox oy (.int kd a) (.int kd b)).run P w = .ok () w := by unfold eqGuard; cases op <;> simp
  simp only [Sem.run_bind, hg, Result.andThen_ok]
  cases op <;> simp only [intK, cmpK] at h
  case add => exact ⟨_, .int kd (kd.wrap (a + b)), h, by simp [VR, wr_eq], by simp [binOp, Op.intArith]⟩
  case sub => exact ⟨_, .int kd (kd.wrap (a - b)), h, by simp [VR, wr_eq], by simp [binOp, Op.intArith]⟩
  case mul => exact ⟨_, .int kd (kd.wrap (a * b)), h, by simp [VR, wr_eq], by simp [binOp, Op.intArith]⟩
  case quo =>
    split at h
    · cases h
    · rename_i hb
      exact ⟨_, .int kd (kd.wrap (a.tdiv b)), h, by simp [VR, wr_eq], by simp [binOp, Op.intDiv, hb]⟩
  case rem =>
    split at h
    · cases h
    · rename_i hb
      exact ⟨_, .int kd (a.tmod b), h, by simp [VR], by simp [binOp, Op.intDiv, hb]⟩
  case and => exact ⟨_, .int kd (kd.wrap (BitVec.ofInt kd.bits a &&& BitVec.ofInt kd.bits b).toNat), h, by simp [VR, wr_eq], by simp [binOp, Op.intBits]⟩
  case or => exact ⟨_, .int kd (kd.wrap (BitVec.ofInt kd.bits a ||| BitVec.ofInt kd.bits b).toNat), h, by simp [VR, wr_eq], by simp [binOp, Op.intBits]⟩
  case xor => exact ⟨_, .int kd (kd.wrap (BitVec.ofInt kd.bits a ^^^ BitVec.ofInt kd.bits b).toNat), h, by simp [VR, wr_eq], by simp [binOp, Op.intBits]⟩
  case andNot => exact ⟨_, .int kd (kd.wrap (BitVec.ofInt kd.bits a &&& ~~~ BitVec.ofInt kd.bits b).toNat), h, by simp [VR, wr_eq], by simp [binOp, Op.intBits]⟩
  case eql => exact ⟨_, .bool (a == b), h, by simp [VR], by simp [binOp, Op.intCmp]⟩
  case neq => exact ⟨_, .bool (a != b), h, by simp [VR], by simp [binOp, Op.intCmp]⟩
  case lss => exact ⟨_, .bool (decide (a < b)), h, by simp [VR], by simp [binOp, Op.intCmp]⟩
  case leq => exact ⟨_, .bool (decide (a ≤ b)), h, by simp [VR], by simp [binOp, Op.intCmp]⟩
  case gtr => exact ⟨_, .bool (decide (a > b)), h, by simp [VR], by simp [binOp, Op.intCmp]⟩
  case geq => exact ⟨_, .bool (decide (a ≥ b)), h, by simp [VR], by simp [binOp, Op.intCmp]⟩
  all_goals cases h

theorem shiftK_some {l : Bool} {kd kd' : IntKind} {a b : Int} {k : V → Option ρ} {r : ρ} (h : shiftK l kd a b k = some r) (t : TypeId) (w : World) (ox oy : Operand) :
    ∃ v c, k v = some r ∧ VR μ v c ∧ (do eqGuard (if l then .shl else .shr) t ox oy (.int kd a) (.int kd' b); binOp (if l then .shl else .shr) t (.int kd a) (.int kd' b) : Sem Value).run P w = .ok c w := by
  unfold shiftK at h
  split at h
  · cases h
  · rename_i hb
    cases l
    · exact ⟨_, .int kd (a.fdiv (2 ^ min b.toNat kd.bits)), h, by simp [VR], by simp [eqGuard, binOp, Op.shift, hb]⟩
    · exact ⟨_, .int kd (kd.wrap (a * 2 ^ min b.toNat kd.bits)), h, by simp [VR, wr_eq], by simp [eqGuard, binOp, Op.shift, hb]⟩

/-- Comparing struct by struct: a part's cells. -/
theorem eqCells_append : ∀ {ls ms : List Leaf} {xs ys : List V} {r : Bool}, eqCells (ls ++ ms) xs ys = some r →
    ∃ x y, eqCells ls (xs.take ls.length) (ys.take ls.length) = some x ∧ eqCells ms (xs.drop ls.length) (ys.drop ls.length) = some y ∧ r = (x && y)
  | [], ms, xs, ys, r, h => ⟨true, r, by simp [eqCells], by simpa using h, by simp⟩
  | l :: ls, ms, xs, ys, r, h => by
    match xs, ys, h with
    | [], _, h => simp [eqCells] at h
    | _ :: _, [], h => simp [eqCells] at h
    | a :: xs, b :: ys, h =>
      simp only [List.cons_append, eqCells] at h
      split at h
      · rename_i x y hx hy
        cases h
        obtain ⟨x', y', h1, h2, rfl⟩ := eqCells_append hy
        exact ⟨x && x', y', by simp [eqCells, hx, h1], by simpa using h2, by simp [Bool.and_assoc]⟩
      · cases h
theorem eqCells_length : ∀ {ls : List Leaf} {as bs : List V} {r : Bool}, eqCells ls as bs = some r → as.length = ls.length ∧ bs.length = ls.length
  | [], [], [], _, _ => ⟨rfl, rfl⟩
  | l :: ls, a :: as, b :: bs, r, h => by
    simp only [eqCells] at h
    split at h
    · rename_i x y hx hy
      simp [eqCells_length hy]
    · cases h
  | [], _ :: _, _, _, h => by simp [eqCells] at h
  | [], [], _ :: _, _, h => by simp [eqCells] at h
  | _ :: _, [], _, _, h => by simp [eqCells] at h
  | _ :: _, _ :: _, [], _, h => by simp [eqCells] at h

/-- A struct's value is one of its cells, another's is one cell. -/
def shaped (P : Program) (t : TypeId) (v : V) : Prop := match P.underlying t with | some (.struct _) => (∃ cs, v = .agg cs) | _ => v.one = true

theorem leafy {l : Leaf} {x y : V} {b : Bool} (hx : x.one = true) (hy : y.one = true) (h : eqCells [l] x.cells y.cells = some b) : eqLeaf l x y = some b := by
  have h1 : x.cells = [x] := by cases x <;> simp_all [V.one, V.cells]
  have h2 : y.cells = [y] := by cases y <;> simp_all [V.one, V.cells]
  rw [h1, h2] at h
  simp only [eqCells] at h
  split at h
  · rename_i u v hu hv
    simp only [Option.some.injEq] at h hv
    subst h; subst hv
    simpa using hu
  · cases h

theorem eqLeaf_bool {x y : V} {b : Bool} (h : eqLeaf .bool x y = some b) : ∃ u v, x = .bool u ∧ y = .bool v ∧ b = (u == v) := by
  cases x <;> cases y <;> simp [eqLeaf] at h
  exact ⟨_, _, rfl, rfl, h.symm⟩
theorem eqLeaf_str {x y : V} {b : Bool} (h : eqLeaf .str x y = some b) : ∃ u v, x = .str u ∧ y = .str v ∧ b = (u.toList == v.toList) := by
  cases x <;> cases y <;> simp only [eqLeaf, Option.some.injEq, reduceCtorEq] at h
  exact ⟨_, _, rfl, rfl, h.symm⟩
theorem eqLeaf_int {x y : V} {b : Bool} (h : eqLeaf .int x y = some b) : ∃ k u v, x = .int k u ∧ y = .int k v ∧ b = (u == v) := by
  cases x <;> cases y <;> simp only [eqLeaf, reduceCtorEq] at h
  split at h
  · rename_i hk
    have := of_decide_eq_true hk
    subst this
    simp only [Option.some.injEq] at h
    exact ⟨_, _, _, rfl, rfl, h.symm⟩
  · cases h

theorem equal_plain (n : Nat) : ∀ (t : TypeId) (d : Nat) (x y : V) (cx cy : Value) (b : Bool) (l : List Leaf), leaves P n t = some l → n ≤ d → VR μ x cx → VR μ y cy → shaped P t x → shaped P t y →
    eqCells l x.cells y.cells = some b → ∀ w, (Op.equalIn d t cx cy).run P w = .ok b w := by
  induction n with
  | zero => intro t d x y cx cy b l h; simp [leaves] at h
  | succ n ih =>
    intro t d x y cx cy b l h hd hx hy sx sy he w
    obtain ⟨d, rfl⟩ : ∃ e, d = e + 1 := ⟨d - 1, by omega⟩
    unfold leaves at h
    split at h
    · rename_i hu
      cases h
      simp only [shaped, hu] at sx sy
      obtain ⟨u, v, rfl, rfl, rfl⟩ := eqLeaf_bool (leafy sx sy he)
      simp only [VR] at hx hy; subst hx; subst hy
      exact run_equalIn_bool' w d t _ _ hu
    · rename_i k hu
      cases h
      simp only [shaped, hu] at sx sy
      obtain ⟨k', u, v, rfl, rfl, rfl⟩ := eqLeaf_int (leafy sx sy he)
      simp only [VR] at hx hy; subst hx; subst hy
      exact run_equalIn_int w d t _ _ _ _ hu
    · rename_i hu
      cases h
      simp only [shaped, hu] at sx sy
      obtain ⟨u, v, rfl, rfl, rfl⟩ := eqLeaf_str (leafy sx sy he)
      simp only [VR] at hx hy; subst hx; subst hy
      exact run_equalIn_string w d t _ _ hu
    · rename_i fs hu
      simp only [shaped, hu] at sx sy
      obtain ⟨as, rfl⟩ := sx
      obtain ⟨bs, rfl⟩ := sy
      simp only [VR] at hx hy
      obtain ⟨xs, rfl, hxs, hxo⟩ := hx
      obtain ⟨ys, rfl, hys, hyo⟩ := hy
      split at h
      · cases h
      · rename_i hst
        have hf : P.underlying t = some (.struct (P.fieldsOf t)) := by simp [Program.fieldsOf, hu]
        rw [run_equalIn_struct w d t xs ys hf hst]
        have hfs : P.fieldsOf t = fs := by simp [Program.fieldsOf, hu]
        rw [hfs]
        simp only [V.cells] at he
        have key : ∀ (fl : List Field) (i : Nat) (l : List Leaf) (b : Bool), leaves.fieldLeaves (leaves P n) P.cellsOf fl i = some l → eqCells l (as.drop i) (bs.drop i) = some b → (Op.eqFields d xs ys fl).run P w = .ok b w := by
          intro fl
          induction fl with
          | nil =>
            intro i l b h he
            simp only [leaves.fieldLeaves, Option.some.injEq] at h
            subst h
            have hl := eqCells_length he
            have h1 : as.drop i = [] := List.eq_nil_of_length_eq_zero hl.1
            have h2 : bs.drop i = [] := List.eq_nil_of_length_eq_zero hl.2
            rw [h1, h2] at he
            simp only [eqCells, Option.some.injEq] at he
            subst he
            simp [Op.eqFields]
          | cons f fl ihf =>
            intro i l b h he
            simp only [leaves.fieldLeaves] at h
            split at h
            · rename_i l1 hl1
              split at h
              · rename_i hd1
                obtain ⟨hn, ho, hs⟩ := of_decide_eq_true hd1
                split at h
                · rename_i m hm
                  cases h
                  obtain ⟨x, y, h1, h2, rfl⟩ := eqCells_append he
                  rw [List.drop_drop] at h2
                  have hrest := ihf _ _ _ hm (by simpa [List.drop_drop] using h2)
                  -- the part's values
                  have hty : ∃ q, ty P f.type = some q ∧ q.2 = l1.length ∧ (q.1 = true ↔ ∃ fs, P.underlying f.type = some (.struct fs)) := by
                    cases n with
                    | zero => simp [leaves] at hl1
                    | succ n =>
                      unfold leaves at hl1
                      unfold ty
                      split at hl1 <;> simp_all
                  obtain ⟨q, hq, hq2, hq1⟩ := hty
                  have hlen := eqCells_length h1
                  obtain ⟨t1, t2, _⟩ := ty_spec hq w
                  have parts : ∀ (cs : List V) (ds : Array Value), VRs μ cs ds.toList → (∀ v ∈ cs, v.one = true) → ((cs.drop i).take l1.length).length = l1.length →
                      ∃ v c, VR μ v c ∧ shaped P f.type v ∧ v.cells = (cs.drop i).take l1.length ∧ (part f.type ds f.offset).run P w = .ok c w := by
                    intro cs ds hr hone hlen
                    cases hq' : q.1 with
                    | true =>
                      obtain ⟨gs, hgs⟩ := hq1.1 hq'
                      refine ⟨.agg ((cs.drop i).take l1.length), .agg (ds.extract i (i + l1.length)), ?_, ?_, rfl, ?_⟩
                      · simp only [VR]
                        refine ⟨_, rfl, ?_, fun v hv => hone v (List.mem_of_mem_drop (List.mem_of_mem_take hv))⟩
                        have : (ds.extract i (i + l1.length)).toList = (ds.toList.drop i).take l1.length := by simp
                        rw [this]
                        exact (hr.drop i).take _
                      · simp [shaped, hgs]
                      · simp [part, t1, t2, hq', ho, hq2]
                    | false =>
                      have hl1one : l1.length = 1 := by
                        cases n with
                        | zero => simp [leaves] at hl1
                        | succ n =>
                          unfold leaves at hl1
                          split at hl1
                          · cases hl1; rfl
                          · cases hl1; rfl
                          · cases hl1; rfl
                          · rename_i gs hgs
                            have := hq1.2 ⟨gs, hgs⟩
                            simp [hq'] at this
                          · cases hl1
                      have hi : i < cs.length := by simp at hlen; omega
                      obtain ⟨c, hc, hvc⟩ := hr.get (i := i) (v := cs[i]) (by simp [hi])
                      refine ⟨cs[i], c, hvc, ?_, ?_, ?_⟩
                      · have hone' := hone cs[i] (by simp)
                        unfold shaped
                        split
                        · rename_i gs hgs
                          have := hq1.2 ⟨gs, hgs⟩
                          simp [hq'] at this
                        · exact hone'
                      · have hone' := hone cs[i] (by simp)
                        rw [hl1one, List.drop_eq_getElem_cons hi]
                        generalize cs[i] = v at hone'
                        cases v <;> simp_all [V.one, V.cells]
                      · have hds : ds[i]? = some c := by simpa using hc
                        simp [part, t1, hq', ho, hds]
                  obtain ⟨v1, c1, hv1, s1, e1, p1⟩ := parts as xs hxs hxo hlen.1
                  obtain ⟨v2, c2, hv2, s2, e2, p2⟩ := parts bs ys hys hyo hlen.2
                  have heq := ih f.type d v1 v2 c1 c2 x l1 hl1 (by omega) hv1 hv2 s1 s2 (by rw [e1, e2]; exact h1) w
                  simp only [Op.eqFields]
                  rw [if_pos hn]
                  simp only [Sem.run_bind, p1, p2, heq, Result.andThen_ok]
                  cases x
                  · simp
                  · simp only [Bool.not_true, Bool.false_eq_true, if_false, Bool.true_and]
                    exact hrest
                · cases h
              · cases h
            · cases h
        exact key fs.toList 0 l b h (by simpa using he)
    · cases h
end
end Go.Ev
