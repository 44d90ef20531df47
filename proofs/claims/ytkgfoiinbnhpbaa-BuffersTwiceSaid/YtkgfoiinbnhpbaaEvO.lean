/- One operation is simulated. -/
import Derived.Test.YtkgfoiinbnhpbaaEvN
namespace Go.Ev
open Go Go.RowKit
section
variable {P : Program} {base : Nat} {w0 we w w' : World} {μe μ ν : Mu} {β : Bt} {F : Fr} {h h' : Hp} {a : Act} {ρ : Type} {Q : Exit → Act → World → Prop}

/-- The cells of 'n' zero elements. -/
theorem zeros_cells {i : TypeInfo} {zv : Value} (n : Nat) (hz : zv.cells.size = i.size) : (Array.range (n * i.size)).map (zv.cells[· % zv.cells.size]!) = Builtin.zeroCells zv.cells n := by
  simp [Builtin.zeroCells, hz]

theorem run_makeSlice {t e : TypeId} {i : TypeInfo} {zv : Value} {kl kc : IntKind} {l c : Int} (ht : P.underlying t = some (.slice e)) (hi : P.info? e = some i) (hz : i.zero = some zv) (hzs : zv.cells.size = i.size) (hs : 0 < i.size)
    (h0 : 0 ≤ l) (hlc : l ≤ c) (hroom : c * i.bytes ≤ (roomB : Nat)) (hc : c ≤ 4611686018427387904) :
    (Instr.makeSlice t (.int kl l) (.int kc c)).run P w = .ok (.slice (some ⟨w.heap.size, 0, none⟩) l.toNat c.toNat) (w.alloc (.cells (Builtin.zeroCells zv.cells c.toNat) e)) := by
  have hw := wrap_small h0 (by omega)
  have hw' := wrap_small (show 0 ≤ c by omega) hc
  unfold roomB at hroom
  have h1 : ¬ (c < 0) := by omega
  have h2 : ¬ (281474976710656 < (i.bytes : Int) * c) := by rw [Int.mul_comm]; omega
  have h3 : ¬ (l < 0) := by omega
  have h4 : ¬ (c < l) := by omega
  have h5 : ¬ (c.toNat * i.bytes > 140737488355328) := by
    have : ((c.toNat * i.bytes : Nat) : Int) = c * i.bytes := by rw [Int.natCast_mul, Int.toNat_of_nonneg (by omega)]
    omega
  have hzr := zeros_cells c.toNat hzs
  by_cases hc0 : c.toNat = 0
  · simp [Instr.makeSlice, run_underlying ht, run_sizeOf w hi, typeInfo, hi, asInt, asIntOf, hw, hw', h1, h2, h3, h4, h5, askRoom, roomBytes, hc0, Builtin.zeroCells, newRow, newObj, Sem.run]
    congr 2
    apply Array.ext <;> simp
  · have h6 : ¬ (c.toNat = 0 ∨ i.size = 0) := by omega
    have hz' : (zeroValue e).run P w = .ok zv w := by simp [zeroValue, typeInfo, hi, hz]
    simp only [hzs] at hzr
    simp [Instr.makeSlice, run_underlying ht, run_sizeOf w hi, typeInfo, hi, asInt, asIntOf, hw, hw', h1, h2, h3, h4, h5, h6, askRoom, roomBytes, hz', newRow, newObj, Sem.run, hzs, hzr]
    intro h7
    exact absurd (Nat.mul_eq_zero.1 h7) (by omega)

theorem run_buildSlice {t e : TypeId} {i : TypeInfo} {zv : Value} {n : Nat} {m : List (Nat × Value)} {outs : Array Value} (ht : P.underlying t = some (.slice e)) (hi : P.info? e = some i) (hz : i.zero = some zv) (hzs : zv.cells.size = i.size) (hs : 0 < i.size)
    (hn : ¬ (n * i.size > 16777216)) (hf : Instr.fill (fun j => some (j * i.size, i.size)) (Builtin.zeroCells zv.cells n) m = some outs) :
    (Instr.buildSlice t n m.toArray).run P w = .ok (.slice (some ⟨w.heap.size, 0, none⟩) n n) (w.alloc (.cells outs e)) := by
  have hzr := zeros_cells n hzs
  have hn' : ¬ (16777216 < n * i.size) := hn
  by_cases hc0 : n = 0
  · subst hc0
    have : Builtin.zeroCells zv.cells 0 = #[] := by simp [Builtin.zeroCells]
    rw [this] at hf
    have hr0 : Array.map (fun (_ : Nat) => (default : Value)) (Array.range 0) = #[] := by simp
    simp [Instr.buildSlice, run_underlying ht, run_sizeOf w hi, newRow, newObj, Sem.run]
    simp only [hr0, hf]
    rfl
  · have h6 : ¬ (n = 0 ∨ i.size = 0) := by omega
    have hz' : (zeroValue e).run P w = .ok zv w := by simp [zeroValue, typeInfo, hi, hz]
    simp only [hzs] at hzr
    simp [Instr.buildSlice, run_underlying ht, run_sizeOf w hi, hn', h6, hz', newRow, newObj, Sem.run, hzs, hzr, hf]
    intro h7
    exact absurd (Nat.mul_eq_zero.1 h7) (by omega)

theorem VR_sl {r g s b cap n : Nat} (h : n ≤ cap) (hg : g = n) : VR (μ.ext r g ⟨b, 0, cap, s⟩) (.sl r g s 0 n) (.slice (some ⟨b, 0, none⟩) n cap) := by
  subst hg
  exact VR_new h

theorem leafK_some {l : Lf} {v : V} {k : V → Option ρ} {r : ρ} (h : leafK l v k = some r) : k v = some r ∧ ∀ {σ : Type} (k' : V → Option σ), leafK l v k' = k' v := by
  cases l with
  | any => exact ⟨h, fun _ => rfl⟩
  | bool => cases v <;> first | (cases h; done) | exact ⟨h, fun _ => rfl⟩
  | int kd =>
    cases v <;> first | (cases h; done) | skip
    rename_i kd' n
    by_cases e : kd' = kd
    · subst e
      have e2 : ∀ {σ : Type} (k' : V → Option σ), leafK (.int kd') (.int kd' n) k' = k' (.int kd' n) := fun k' => by simp [leafK]
      exact ⟨(e2 k).symm.trans h, e2⟩
    · simp [leafK, e] at h
theorem leavesK_some : ∀ {ls : List Lf} {vs : List V} {ρ : Type} {k : List V → Option ρ} {r : ρ}, leavesK ls vs k = some r → k vs = some r ∧ ∀ {σ : Type} (k' : List V → Option σ), leavesK ls vs k' = k' vs
  | [], vs, _, k, r, h => by cases vs <;> first | (cases h; done) | exact ⟨h, fun _ => rfl⟩
  | l :: ls, vs, _, k, r, h => by
    cases vs with
    | nil => cases h
    | cons v vs =>
      simp only [leavesK] at h ⊢
      obtain ⟨h, h1⟩ := leafK_some h
      obtain ⟨h, h2⟩ := leavesK_some h
      exact ⟨h, fun k' => (h1 _).trans (h2 _)⟩
theorem sh1K_some {s : Sh1} {v : V} {k : V → Option ρ} {r : ρ} (h : sh1K s v k = some r) : k v = some r ∧ ∀ {σ : Type} (k' : V → Option σ), sh1K s v k' = k' v := by
  cases s with
  | one l => exact leafK_some h
  | agg ls =>
    cases v <;> first | (cases h; done) | skip
    simp only [sh1K] at h ⊢
    obtain ⟨h, h1⟩ := leavesK_some h
    exact ⟨h, fun k' => h1 _⟩
theorem sh1sK_some : ∀ {ls : List Sh1} {vs : List V} {ρ : Type} {k : List V → Option ρ} {r : ρ}, sh1sK ls vs k = some r → k vs = some r ∧ ∀ {σ : Type} (k' : List V → Option σ), sh1sK ls vs k' = k' vs
  | [], vs, _, k, r, h => by cases vs <;> first | (cases h; done) | exact ⟨h, fun _ => rfl⟩
  | l :: ls, vs, _, k, r, h => by
    cases vs with
    | nil => cases h
    | cons v vs =>
      simp only [sh1sK] at h ⊢
      obtain ⟨h, h1⟩ := sh1K_some h
      obtain ⟨h, h2⟩ := sh1sK_some h
      exact ⟨h, fun k' => (h1 _).trans (h2 _)⟩
theorem shK_some {s : Sh} {v : V} {k : V → Option ρ} {r : ρ} (h : shK s v k = some r) : k v = some r ∧ ∀ {σ : Type} (k' : V → Option σ), shK s v k' = k' v := by
  cases s with
  | one l => exact sh1K_some h
  | tup ls =>
    cases v <;> first | (cases h; done) | skip
    simp only [shK] at h ⊢
    obtain ⟨h, h1⟩ := sh1sK_some h
    exact ⟨h, fun k' => h1 _⟩
theorem tyF_some {s : Sh} {x : FV} {k : FV → Option ρ} {r : ρ} (h : tyF s x k = some r) : k x = some r ∧ ∀ {σ : Type} (k' : FV → Option σ), tyF s x k' = k' x := by
  cases x with
  | v v =>
    simp only [tyF] at h ⊢
    obtain ⟨h, h1⟩ := shK_some h
    exact ⟨h, fun k' => h1 _⟩
  | bot => exact ⟨h, fun _ => rfl⟩
  | self d o => exact ⟨h, fun _ => rfl⟩
  | lit d n => exact ⟨h, fun _ => rfl⟩

/-- One operation: what the evaluator goes on with is so related. -/
theorem opK_some {E : Env} {C : AFun} (hN : NoCount E.P) (hC : CalleeOK E.P base w0 C) {f : Nat} {o : Oper} {k : Fr → Hp → Option ρ} {r : ρ} (st : ST base w0 μe we μ β F h a w) (hk : opK E C f o F h k = some r)
    {K : Act → World → Prop} (hK : ∀ μ' β' F' h' a' w', ST base w0 μe we μ' β' F' h' a' w' → k F' h' = some r → K a' w') : o.wp E.P a w K Q := by
  have hε : ∀ x, FVR μ β (F.eval x) (a.eval x) := eval_rel st.fr
  unfold opK at hk
  split at hk
  · -- alloc
    rename_i t hop
    split at hk
    · rename_i d hd
      split at hk
      · rename_i z hz
        obtain ⟨i, zv, hi, hzv, hrel, hone, hrunz⟩ := zeroArr hz
        have hrun : (execOp a.eval o).run E.P w = .ok (.value (.pointer (some ⟨w.heap.size, 0, none⟩))) (w.alloc (.cells zv.cells t)) := by
          simp [execOp, hop, Instr.alloc, hrunz, run_newVar]
        refine wp_value hrun ?_
        split at hk
        · have hl := (hrel μ).length
          have st' := st.newRow (x := { cells := z, size := z.length, bytes := E.P.bytesOf t, clean := 0, ro := false }) (arr := zv.cells) (e := t) (g := 1) (cap := 1) rfl hone (by simp) (Nat.le_refl _) (by simpa using hl) (hrel μ).getArr
          rw [hd]
          refine hK _ _ _ _ _ _ (st'.put (some d) (x := .v (.ptr h.next 1 0)) ?_) hk
          simp only [FVR, VR]
          exact ⟨⟨w.heap.size, 0, 1, z.length⟩, by simp [Mu.ext], by simp⟩
        · unfold newVarK at hk
          split at hk
          · cases hk
          · rename_i hself
            rw [hd]
            refine hK _ _ _ _ _ _ (st.newVar hself hone (hrel μ) (e := t) fun β' hb => ?_) hk
            exact ⟨_, hb, rfl⟩
      · cases hk
    · cases hk
  · -- box
    rename_i t x hop
    split at hk
    · rename_i d hd
      obtain ⟨v, hv, hk⟩ := asK_some hk
      have hvr := hε x
      rw [hv] at hvr
      split at hk
      · rename_i hdec
        obtain ⟨htup, hlen⟩ := of_decide_eq_true hdec
        obtain ⟨hcs, hco⟩ := VR.cells hvr htup
        have hl := hcs.length
        have hrun : (execOp a.eval o).run E.P w = .ok (.value (.pointer (some ⟨w.heap.size, 0, none⟩))) (w.alloc (.cells (a.eval x).cells t)) := by
          simp [execOp, hop, Instr.box, run_newVar]
        refine wp_value hrun ?_
        split at hk
        · have st' := st.newRow (x := { cells := v.cells, size := v.cells.length, bytes := E.P.bytesOf t, clean := 0, ro := false }) (arr := (a.eval x).cells) (e := t) (g := 1) (cap := 1) rfl hco (by simp) (Nat.le_refl _) (by simpa using hl) hcs.getArr
          rw [hd]
          refine hK _ _ _ _ _ _ (st'.put (some d) (x := .v (.ptr h.next 1 0)) ?_) hk
          simp only [FVR, VR]
          exact ⟨⟨w.heap.size, 0, 1, v.cells.length⟩, by simp [Mu.ext], by simp⟩
        · unfold newVarK at hk
          split at hk
          · cases hk
          · rename_i hself
            rw [hd]
            refine hK _ _ _ _ _ _ (st.newVar hself hco hcs (e := t) fun β' hb => ?_) hk
            exact ⟨_, hb, rfl⟩
      · cases hk
    · cases hk
  · -- buildSlice
    rename_i t n ps hop
    split at hk
    · rename_i d hd
      split at hk
      · rename_i e he
        obtain ⟨hu, i, zv, hi, his, hib, hpos, hzv, hzs⟩ := elemInfo_spec he
        split at hk
        · cases hk
        · rename_i hbig
          have hbig := of_decide_eq_false hbig
          obtain ⟨l, hk, hpr⟩ := partsK_some hε hk
          split at hk
          · rename_i z hz
            obtain ⟨i', zv', hi', hzv', hrel, hone, _⟩ := zeroArr hz
            rw [hi] at hi'
            cases hi'
            rw [hzv] at hzv'
            cases hzv'
            split at hk
            · rename_i cs hcs
              have hzr : VRs μ (repl n z) (Builtin.zeroCells zv.cells n).toList := zeros_rel (hrel μ) n
              rw [← his] at hcs
              obtain ⟨outs, hf, hr, hro, hlo⟩ := fillAll_spec hcs hzr (fun v hv => hone v (repl_mem hv)) hpr
              have hol := hr.length
              have hzl := hzr.length
              simp only [Array.length_toList, size_zeroCells] at hol hzl
              have hb := run_buildSlice (w := w) hu hi hzv hzs (by omega) (by rw [his]; exact hbig) (by simpa using hf)
              have hps : (ps.map fun (i, x) => (i, a.eval x)) = (ps.toList.map fun (i, x) => (i, a.eval x)).toArray := by apply Array.ext'; simp
              have hrun : (execOp a.eval o).run E.P w = .ok (.value (.slice (some ⟨w.heap.size, 0, none⟩) n n)) (w.alloc (.cells outs e.1)) := by
                simp only [execOp, hop, hps, Sem.run_bind, hb]
                simp
              refine wp_value hrun ?_
              have hcl : cs.length = n * e.2.1 := by rw [hlo, ← hzl, hzs, his]
              split at hk
              · have st' := st.newRow (x := { cells := cs, size := e.2.1, bytes := e.2.2, clean := 0, ro := false }) (arr := outs) (e := e.1) (g := n) (cap := n) rfl hro hcl.symm (Nat.le_refl _) (by rw [hol, hcl]) hr.getArr
                rw [hd]
                refine hK _ _ _ _ _ _ (st'.put (some d) (x := .v (.sl h.next n e.2.1 0 n)) ?_) hk
                exact VR_sl (Nat.le_refl _) rfl
              · unfold newVarK at hk
                split at hk
                · cases hk
                · rename_i hself
                  rw [hd]
                  refine hK _ _ _ _ _ _ (st.newVar hself hro hr (e := e.1) fun β' hb => ?_) hk
                  exact ⟨_, hb, rfl⟩
            · cases hk
          · cases hk
      · cases hk
    · cases hk
  · -- makeSlice
    rename_i t l' c' hop
    split at hk
    · rename_i kl l kc c hl hc
      have hl' := hε l'
      have hc' := hε c'
      rw [hl] at hl'
      rw [hc] at hc'
      simp only [FVR, VR] at hl' hc'
      split at hk
      · rename_i e he
        obtain ⟨hu, i, zv, hi, his, hib, hpos, hzv, hzs⟩ := elemInfo_spec he
        split at hk
        · rename_i z hz
          obtain ⟨i', zv', hi', hzv', hrel, hone, _⟩ := zeroArr hz
          rw [hi] at hi'
          cases hi'
          rw [hzv] at hzv'
          cases hzv'
          split at hk
          · rename_i hcond
            obtain ⟨h0, hlc, hroom, h62⟩ := hcond
            have hrun : (execOp a.eval o).run E.P w = .ok (.value (.slice (some ⟨w.heap.size, 0, none⟩) l.toNat c.toNat)) (w.alloc (.cells (Builtin.zeroCells zv.cells c.toNat) e.1)) := by
              have := run_makeSlice (w := w) (kl := kl) (kc := kc) hu hi hzv hzs (by omega) h0 hlc (by rw [hib]; exact hroom) h62
              simp [execOp, hop, hl', hc', this]
            refine wp_value hrun ?_
            have hzl := (hrel μ).length
            simp only [Array.length_toList] at hzl
            have hle : l.toNat ≤ c.toNat := by omega
            have st' := st.newRow (x := { cells := repl l.toNat z, size := e.2.1, bytes := e.2.2, clean := 0, ro := false }) (arr := Builtin.zeroCells zv.cells c.toNat) (e := e.1) (g := l.toNat) (cap := c.toNat) rfl (fun v hv => hone v (repl_mem hv))
              (by simp only [repl_length, ← hzl, hzs, his]) hle (by simp only [size_zeroCells, hzs, his]) (fun j v hj => by
                have hlt : j < l.toNat * z.length := by
                  have := (List.getElem?_eq_some_iff.1 hj).1
                  rwa [repl_length] at this
                rw [repl_get z _ j hlt] at hj
                have hj' : (repl c.toNat z)[j]? = some v := by
                  rw [repl_get z _ j (Nat.lt_of_lt_of_le hlt (Nat.mul_le_mul_right _ hle))]; exact hj
                exact (zeros_rel (hrel μ) c.toNat).getArr j v hj')
            refine hK _ _ _ _ _ _ (st'.put o.dst (x := .v (.sl h.next l.toNat e.2.1 0 l.toNat)) ?_) hk
            exact VR_sl hle rfl
          · cases hk
        · cases hk
      · cases hk
    · cases hk
  · -- load
    rename_i t x hop
    obtain ⟨v, c, hk, hv, hrun⟩ := loadK_some st.hr st.fr (hε x) hk
    replace hk := (tyF_some hk).1
    refine wp_value (c := c) (w' := w) (by simp [execOp, hop, hrun]) ?_
    exact hK _ _ _ _ _ _ (st.put o.dst hv) hk
  · -- slice
    rename_i t x lo hi hop
    have ho : ∀ y : Option Operand, OR μ β (y.map F.eval) (y.map a.eval) := by
      intro y
      cases y with
      | none => rfl
      | some y => exact ⟨_, rfl, hε y⟩
    obtain ⟨v, c, hk, hv, hrun⟩ := sliceK_some (hε x) (ho lo) (ho hi) hk w
    refine wp_value (c := c) (w' := w) (by simp [execOp, hop, hrun]) ?_
    exact hK _ _ _ _ _ _ (st.put o.dst hv) hk
  · -- store
    rename_i t x y hop
    obtain ⟨v, hv, hk⟩ := asK_some hk
    have hvr := hε y
    rw [hv] at hvr
    obtain ⟨F', h', w', hk, hrun, st'⟩ := store_some st (hε x) hvr hk
    refine wp_skip' (w' := w') (by simp [execOp, hop, hrun]) ?_
    exact hK _ _ _ _ _ _ (st'.put o.dst (x := .bot) (c := undef) trivial) hk
  · -- call
    rename_i c hop
    split at hk
    · -- append
      rename_i hcal
      split at hk
      · rename_i s x t u hargs htys
        split at hk
        · rename_i e he
          obtain ⟨hu, i, zv, hi, his, hib, hpos, hzv, hzs⟩ := elemInfo_spec he
          obtain ⟨v, hv, hk⟩ := asK_some hk
          have hvr := hε s
          rw [hv] at hvr
          obtain ⟨cs, n, ds, hk, hcs, hone, hcl, hsrc⟩ := appendSource_some st.hr st.fr hi his hzv (hε x) hk hzs
          obtain ⟨v', h', c', w', ν, hk, hvr', hrun, st'⟩ := append_some (ty' := o.type) st hu hi his hib hpos hzv hzs hvr hcs hone hcl hsrc hk
          have h4 : c.args = #[s, x] := by apply Array.ext'; simpa using hargs
          have h5 : c.argTypes = #[t, u] := by apply Array.ext'; simpa using htys
          refine wp_value (c := c') (w' := w') (by simp [execOp, hop, resolve, hcal, invoke, builtin, h4, h5, hrun]) ?_
          exact hK _ _ _ _ _ _ (st'.put o.dst (x := .v v') hvr') hk
        · cases hk
      · cases hk
    · -- copy
      rename_i hcal
      split at hk
      · rename_i s x t u hargs htys
        split at hk
        · rename_i e he
          obtain ⟨hu, i, zv, hi, his, hib, hpos, hzv, hzs⟩ := elemInfo_spec he
          obtain ⟨v, hv, hk⟩ := asK_some hk
          have hvr := hε s
          rw [hv] at hvr
          obtain ⟨cs, n, ds, hk, hcs, hone, hcl, hsrc⟩ := sourceK_some st.hr st.fr (hε x) hk
          obtain ⟨v', h', c', w', hk, hvr', hrun, st'⟩ := copy_some (u := u) (ty' := o.type) st hu hi his hvr hcs hone hcl hsrc hk
          have h4 : c.args = #[s, x] := by apply Array.ext'; simpa using hargs
          have h5 : c.argTypes = #[t, u] := by apply Array.ext'; simpa using htys
          refine wp_value (c := c') (w' := w') (by simp [execOp, hop, resolve, hcal, invoke, builtin, h4, h5, hrun]) ?_
          exact hK _ _ _ _ _ _ (st'.put o.dst (x := .v v') hvr') hk
        · cases hk
      · cases hk
    · -- other builtins
      obtain ⟨v, c', hk, hv, hrun⟩ := pureK_some hε hk w
      replace hk := (tyF_some hk).1
      exact wp_value (hrun o rfl) (hK _ _ _ _ _ _ (st.put o.dst hv) hk)
    · -- calls
      obtain ⟨g, args, cargs, v, h', hk, hcall, hargs, hrun⟩ := callK_some hN st hC hk
      replace hk := (tyF_some hk).1
      obtain ⟨_, hcalls⟩ := hC g args h v h' hcall
      refine wp_enter (hrun o hop) (hcalls μ w cargs st.hr (Nat.le_trans st.bas st.size) hargs) ?_
      rintro e w' ⟨ν, c', rfl, hv, hr', hle, hi, hkeep, hsz⟩
      refine ⟨c', rfl, ?_⟩
      have st' := st.heap hr' hle hi hkeep hsz
      exact hK _ _ _ _ _ _ (st'.put o.dst (x := .v v) hv) hk
  · -- all others
    obtain ⟨v, c', hk, hv, hrun⟩ := pureK_some hε hk w
    replace hk := (tyF_some hk).1
    exact wp_value (hrun o rfl) (hK _ _ _ _ _ _ (st.put o.dst hv) hk)
end
end Go.Ev
