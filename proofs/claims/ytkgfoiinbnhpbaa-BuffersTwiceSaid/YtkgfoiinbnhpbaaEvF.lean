/- Each operation that looks at the frame's slots alone is simulated. -/
import Derived.Test.YtkgfoiinbnhpbaaEvE
namespace Go.Ev
open Go Go.RowKit
section
variable {P : Program} {μ : Mu} {β : Bt} {ρ : Type}

theorem partK_some {μ : Mu} {cs : List V} {ds : Array Value} (h : VRs μ cs ds.toList) (ho : ∀ v ∈ cs, v.one = true) {t : TypeId} {q : Bool × Nat} (hq : ty P t = some q) (off : Nat)
    {k : V → Option ρ} {r : ρ} (hk : partK q.1 q.2 cs off k = some r) (w : World) :
    ∃ v c, k v = some r ∧ VR μ v c ∧ (part t ds off).run P w = .ok c w := by
  obtain ⟨v, c, h1, h2, h3, _⟩ := one_part h ho hq off hk w
  exact ⟨v, c, h1, h2, by simpa using h3⟩

theorem fieldOf_spec {s : TypeId} {f : Nat} {p : Nat × Bool × Nat} (h : fieldOf P s f = some p) :
    ∃ fs x, P.underlying s = some (.struct fs) ∧ fs[f]? = some x ∧ x.offset = p.1 ∧ ty P x.type = some p.2 ∧ p.2.2 ≠ 0 := by
  unfold fieldOf at h
  split at h
  · rename_i fs hu
    split at h
    · rename_i x hx
      split at h
      · rename_i q hq
        split at h
        · cases h
        · rename_i hd
          cases h
          exact ⟨fs, x, hu, hx, rfl, hq, of_decide_eq_false hd⟩
      · cases h
    · cases h
  · cases h

theorem run_fieldAt {s : TypeId} {f : Nat} {p : Nat × Bool × Nat} (h : fieldOf P s f = some p) (b o : Nat) (w : World) :
    (Instr.fieldAt s (.pointer (some ⟨b, o, none⟩)) f).run P w = .ok (.pointer (some ⟨b, o + p.1, none⟩)) w := by
  obtain ⟨fs, x, hu, hx, ho, hq, hn⟩ := fieldOf_spec h
  obtain ⟨_, h2, _⟩ := ty_spec hq w
  have hadd : (⟨b, o, none⟩ : Addr).add p.1 = ⟨b, o + p.1, none⟩ := by unfold Addr.add; split <;> simp_all
  simp [Instr.fieldAt, run_underlying hu, hx, Instr.sureAddr, fieldPlace, h2, hn, ho, hadd]

theorem addr_add (b o n : Nat) : (⟨b, o, none⟩ : Addr).add n = ⟨b, o + n, none⟩ := by unfold Addr.add; split <;> simp_all

theorem run_indexAt_slice {t e : TypeId} {q : Bool × Nat} (hu : P.underlying t = some (.slice e)) (hq : ty P e = some q) (kd : IntKind) (b o n cap : Nat) (i : Int) (h0 : 0 ≤ i) (h1 : i < n) (w : World) :
    (Instr.indexAt t (.slice (some ⟨b, o, none⟩) n cap) (.int kd i)).run P w = .ok (.pointer (some ⟨b, o + i.toNat * q.2, none⟩)) w := by
  obtain ⟨_, h2, _⟩ := ty_spec hq w
  simp [Instr.indexAt, asIntOf, run_underlying hu, h2, h0, h1, addr_add]
theorem run_indexAt_array {t e : TypeId} {m : Nat} {q : Bool × Nat} (hu : P.underlying t = some (.array m e)) (hq : ty P e = some q) (kd : IntKind) (b o : Nat) (i : Int) (h0 : 0 ≤ i) (h1 : i < m) (w : World) :
    (Instr.indexAt t (.pointer (some ⟨b, o, none⟩)) (.int kd i)).run P w = .ok (.pointer (some ⟨b, o + i.toNat * q.2, none⟩)) w := by
  obtain ⟨_, h2, _⟩ := ty_spec hq w
  simp [Instr.indexAt, asIntOf, run_underlying hu, Instr.sureAddr, h2, h0, h1, addr_add]

theorem idxK_some {t : TypeId} {x i : FV} {cx ci : Value} {k : FV → Option ρ} {r : ρ} (hx : FVR μ β x cx) (hi : FVR μ β i ci) (h : idxK P t x i k = some r) (w : World) :
    ∃ v c, k v = some r ∧ FVR μ β v c ∧ (Instr.indexAt t cx ci).run P w = .ok c w := by
  unfold idxK at h
  split at h
  · rename_i kd i
    simp only [FVR, VR] at hi; subst hi
    split at h
    · rename_i e hu
      split at h
      · rename_i q hq
        split at h
        · rename_i r' g s o n
          split at h
          · rename_i hc
            obtain ⟨rfl, h0, h1⟩ := hc
            simp only [FVR, VR] at hx
            obtain ⟨j, a, cap, hj, rfl, hs, hn, hcap, hg, ha⟩ := hx
            have ha := ha (by omega)
            subst ha
            refine ⟨_, _, h, ?_, run_indexAt_slice hu hq kd _ _ _ _ i h0 h1 w⟩
            simp only [FVR, VR]
            exact ⟨j, hj, by simp [Nat.add_mul, Nat.add_assoc]⟩
          · cases h
        · cases h
      · cases h
    · rename_i m e hu
      split at h
      · rename_i q hq
        split at h
        · split at h
          · rename_i hc
            simp only [FVR, VR] at hx
            obtain ⟨j, hj, rfl⟩ := hx
            refine ⟨_, _, h, ?_, run_indexAt_array hu hq kd _ _ i hc.1 hc.2 w⟩
            simp only [FVR, VR]
            exact ⟨j, hj, by simp [Nat.add_assoc]⟩
          · cases h
        · split at h
          · rename_i hc
            simp only [FVR] at hx
            obtain ⟨b, hb, rfl⟩ := hx
            refine ⟨_, _, h, ?_, run_indexAt_array hu hq kd _ _ i hc.1 hc.2 w⟩
            simp only [FVR]
            exact ⟨b, hb, rfl⟩
          · cases h
        · cases h
      · cases h
    · cases h
  · cases h

theorem indexK_some {t : TypeId} {x i : FV} {cx ci : Value} {k : FV → Option ρ} {r : ρ} (hx : FVR μ β x cx) (hi : FVR μ β i ci) (h : indexK P t x i k = some r) (w : World) :
    ∃ v c, k v = some r ∧ FVR μ β v c ∧ (Instr.index t cx ci).run P w = .ok c w := by
  unfold indexK at h
  split at h
  · rename_i kd i
    simp only [FVR, VR] at hi; subst hi
    split at h
    · rename_i m e hu
      split at h
      · rename_i q hq
        split at h
        · split at h
          · rename_i hc
            simp only [FVR, VR] at hx
            obtain ⟨ds, rfl, hds, ho⟩ := hx
            obtain ⟨v, c, h1, h2, h3⟩ := partK_some hds ho hq _ h w
            obtain ⟨_, hs, _⟩ := ty_spec hq w
            refine ⟨_, c, h1, h2, ?_⟩
            simp [Instr.index, asIntOf, run_underlying hu, hc.1, hc.2, hs, h3]
          · cases h
        · cases h
      · cases h
    · rename_i hu
      split at h
      · rename_i s
        split at h
        · rename_i hc
          simp only [FVR, VR] at hx; subst hx
          cases hb : s[i.toNat]? with
          | none => simp [hb] at h
          | some b =>
            simp only [hb, Option.bind_some] at h
            refine ⟨_, .int .u8 b.toNat, h, by simp [FVR, VR], ?_⟩
            simp [Instr.index, asIntOf, run_underlying hu, hc, hb]
        · cases h
      · cases h
    · cases h
  · cases h

theorem fvr_int {kd : IntKind} {n : Int} : FVR μ β (.v (.int kd n)) (.int kd n) := by simp [FVR, VR]
theorem fvr_bool {b : Bool} : FVR μ β (.v (.bool b)) (.bool b) := by simp [FVR, VR]

theorem lenK_some {t : TypeId} {x : FV} {cx : Value} {k : FV → Option ρ} {r : ρ} (hx : FVR μ β x cx) (h : lenK P t x k = some r) (w : World) (ty' : TypeId) :
    ∃ v c, k v = some r ∧ FVR μ β v c ∧ (Builtin.len_ #[t] ty' #[cx]).run P w = .ok c w := by
  unfold lenK at h
  split at h
  · rename_i e hu
    split at h
    · simp only [FVR, VR] at hx
      obtain ⟨j, a, cap, _, rfl, _⟩ := hx
      exact ⟨_, _, h, fvr_int, by simp [Builtin.len_, run_underlying hu, goInt]⟩
    · simp only [FVR, VR] at hx; subst hx
      exact ⟨_, _, h, fvr_int, by simp [Builtin.len_, run_underlying hu, goInt]⟩
    · cases h
  · rename_i hu
    split at h
    · simp only [FVR, VR] at hx; subst hx
      exact ⟨_, _, h, fvr_int, by simp [Builtin.len_, run_underlying hu, goInt]⟩
    · cases h
  · cases h

theorem run_places (w : World) : ∀ (fs : List Field), (fs.all fun f => (P.info? f.type).isSome) = true →
    (fs.mapM (fun f => do pure (f.offset, ← Go.sizeOf f.type) : Field → Sem (Nat × Nat))).run P w = .ok (fs.map fun f => (f.offset, P.cellsOf f.type)) w
  | [], _ => by simp
  | f :: fs, h => by
    simp only [List.all_cons, Bool.and_eq_true] at h
    obtain ⟨i, hi⟩ := Option.isSome_iff_exists.1 h.1
    have ih := run_places w fs h.2
    simp only [List.mapM_cons, Sem.run_bind, run_sizeOf w hi, Result.andThen_ok, Sem.run_pure, ih, List.map_cons]
    simp [Program.cellsOf, hi]

theorem run_build {t : TypeId} {i : TypeInfo} {zv : Value} {m : List (Nat × Value)} {outs : Array Value} {w : World} (hi : P.info? t = some i) (hz : i.zero = some zv) (hp : partsThere P t = true)
    (hf : Instr.fill (placeOf P t) zv.cells m = some outs) : (Instr.build t m.toArray).run P w = .ok (.agg outs) w := by
  have hzero : (zeroValue t).run P w = .ok zv w := by simp [zeroValue, typeInfo, hi, hz]
  unfold partsThere at hp
  split at hp
  · rename_i fs hu
    have hpl : placeOf P t = fun j => (fs.toList.map fun f => (f.offset, P.cellsOf f.type)).toArray[j]? := by
      funext j
      simp only [placeOf, hu, sizeOf, List.getElem?_toArray, List.getElem?_map, Array.getElem?_toList]
      cases fs[j]? <;> rfl
    rw [hpl] at hf
    have hm := run_places w fs.toList hp
    unfold Instr.build
    simp only [Sem.run_bind, hzero, run_underlying hu, Result.andThen_ok, Array.mapM_eq_mapM_toList, Sem.run_map, hm]
    simp only [List.getElem?_toArray, List.getElem?_map, Array.getElem?_toList] at hf
    simp [hf]
  · rename_i n e hu
    obtain ⟨j, hj⟩ := Option.isSome_iff_exists.1 hp
    have hpl : placeOf P t = fun i => some (i * j.size, j.size) := by
      funext i
      simp [placeOf, hu, sizeOf, Program.cellsOf, hj]
    rw [hpl] at hf
    unfold Instr.build
    simp only [Sem.run_bind, hzero, run_underlying hu, Result.andThen_ok, run_sizeOf w hj]
    simp [hf]
  · cases hp

/-- A part of a value does not look at the world. -/
theorem part_free {t : TypeId} {q : Bool × Nat} (hq : ty P t = some q) {ds : Array Value} {off : Nat} {c : Value} {w : World} (h : (part t ds off).run P w = .ok c w) (w' : World) : (part t ds off).run P w' = .ok c w' := by
  obtain ⟨t1, t2, _⟩ := ty_spec hq w'
  obtain ⟨t1', t2', _⟩ := ty_spec hq w
  unfold part at h ⊢
  simp only [Sem.run_bind, t1, t2, t1', t2', Result.andThen_ok] at h ⊢
  cases hq1 : q.1 with
  | true => simp [hq1, t2, t2'] at h ⊢; exact h
  | false =>
    simp only [hq1, Bool.false_eq_true, if_false] at h ⊢
    cases hv : ds[off]? with
    | none => simp [hv, stuck, Sem.run] at h
    | some v => simp [hv] at h ⊢; exact h

theorem followBlind_some {f1 : List FieldStep} : ∀ {t : TypeId} {x : V} {c : Value} {out : TypeId × V}, afollow P f1 t x = some out → VR μ x c →
    ∃ d, VR μ out.2 d ∧ ∀ w, (followBlind f1 t (some c)).run P w = .ok (.ok (out.1, some d)) w := by
  induction f1 with
  | nil =>
    intro t x c out h hx
    simp only [afollow, Option.some.injEq] at h
    subst h
    exact ⟨c, hx, fun w => by simp [followBlind]⟩
  | cons s rest ih =>
    intro t x c out h hx
    unfold afollow at h
    split at h
    · rename_i hder
      split at h
      · rename_i p hp
        unfold fieldOfT at hp
        split at hp
        · rename_i fs hu
          split at hp
          · rename_i f hf
            split at hp
            · rename_i q hq
              cases hp
              simp only [VR] at hx
              obtain ⟨ds, rfl, hds, ho⟩ := hx
              obtain ⟨v, c, h1, h2, h3⟩ : ∃ v c, (afollow P rest f.type v = some out) ∧ VR μ v c ∧ (part f.type ds f.offset).run P default = .ok c default := partK_some hds ho hq f.offset h default
              obtain ⟨d, hd, hrun⟩ := ih h1 h2
              refine ⟨d, hd, fun w => ?_⟩
              simp [followBlind, run_underlying hu, hf, hder, part_free hq h3 w, hrun]
            · cases hp
          · cases hp
        · cases hp
      · cases h
    · cases h

theorem nilAhead_some {t : TypeId} {v : V} {c : Value} {name : String} (h : methOK P t v name = true) (hv : VR μ v c) (n : Nat) (w : World) : (nilAhead (n + 1) t c name).run P w = .ok (some false) w := by
  unfold methOK at h
  split at h
  · rename_i i hi
    split at h
    · rename_i m hm
      split at h
      · rename_i x hx
        obtain ⟨d, hd, hrun⟩ := followBlind_some hx hv
        split at h
        · rename_i fp hfp
          split at h
          · rename_i hp
            obtain ⟨f, b⟩ := fp
            simp only at hp
            subst hp
            simp [nilAhead, typeInfo, hi, hm, hrun, hfp]
          · rename_i hp
            obtain ⟨f, b⟩ := fp
            simp only at hp
            subst hp
            split at h
            · rename_i e r g o hu hx2
              rw [hx2] at hd
              simp only [VR] at hd
              obtain ⟨j, _, rfl⟩ := hd
              simp [nilAhead, typeInfo, hi, hm, hrun, hfp, run_underlying hu]
            · cases h
            · rename_i dsc hno hu _
              simp only [nilAhead, typeInfo, Sem.run_bind, run_program, Result.andThen_ok, hi, hm, Sem.run_pure, hrun, hfp, run_underlying hu]
              cases dsc <;> first
                | exact (hno _ rfl).elim
                | rfl
            · cases h
        · cases h
      · cases h
    · cases h
  · cases h

theorem pureK_some {op : Op} {ε : Operand → FV} {τ : Operand → Value} {k : FV → Option ρ} {r : ρ} (hε : ∀ x, FVR μ β (ε x) (τ x)) (h : pureK P op ε k = some r) (w : World) :
    ∃ v c, k v = some r ∧ FVR μ β v c ∧ ∀ o : Oper, o.op = op → (execOp τ o).run P w = .ok (.value c) w := by
  unfold pureK at h
  split at h
  -- move, assign
  · rename_i x
    exact ⟨_, _, h, hε x, fun o ho => by simp [execOp, ho]⟩
  · rename_i x
    exact ⟨_, _, h, hε x, fun o ho => by simp [execOp, ho]⟩
  -- pick
  · rename_i c a b
    split at h
    · rename_i cb hc
      have hc' := hε c
      rw [hc] at hc'
      simp only [FVR, VR] at hc'
      have ha' := hε a
      have hb' := hε b
      split at h
      · rename_i x y hx hy
        rw [hx] at ha'; rw [hy] at hb'
        simp only [FVR, VR] at ha' hb'
        refine ⟨_, .bool (bif cb then x else y), h, by simp [FVR, VR], fun o ho => ?_⟩
        cases cb <;> simp [execOp, ho, hc', ha', hb', asBool]
      · cases cb
        · exact ⟨_, _, h, hb', fun o ho => by simp [execOp, ho, hc', asBool]⟩
        · exact ⟨_, _, h, ha', fun o ho => by simp [execOp, ho, hc', asBool]⟩
    · cases h
  -- nilCheck
  · rename_i x
    have hx := hε x
    split at h
    · rename_i e; rw [e] at hx
      refine ⟨_, τ x, h, hx, fun o ho => ?_⟩
      simp only [FVR, VR] at hx
      obtain ⟨i, _, hx⟩ := hx
      simp [execOp, ho, hx]
    · rename_i e; rw [e] at hx
      refine ⟨_, τ x, h, hx, fun o ho => ?_⟩
      simp only [FVR] at hx
      obtain ⟨i, _, hx⟩ := hx
      simp [execOp, ho, hx]
    · rename_i e; rw [e] at hx
      refine ⟨_, τ x, h, hx, fun o ho => ?_⟩
      simp only [FVR, VR] at hx
      obtain ⟨i, hx, _⟩ := hx
      simp [execOp, ho, hx]
    · rename_i e; rw [e] at hx
      refine ⟨_, τ x, h, hx, fun o ho => ?_⟩
      simp only [FVR, VR] at hx
      obtain ⟨i, hx, _⟩ := hx
      simp [execOp, ho, hx]
    · rename_i e; rw [e] at hx
      split at h
      · rename_i hm
        refine ⟨_, τ x, h, hx, fun o ho => ?_⟩
        simp only [FVR, VR] at hx
        obtain ⟨i, hx, u, rfl, hu⟩ := hx
        have hd0 : 0 < Made.depth := by decide
        have hfuel : P.types.size + Made.depth - 1 + 1 = P.types.size + Made.depth := by omega
        have hn := nilAhead_some hm hu (P.types.size + Made.depth - 1) w
        rw [hfuel] at hn
        simp [execOp, ho, hx, hn]
      · cases h
    · cases h
  -- binOp
  · rename_i op t x y yt
    obtain ⟨a, ha, h⟩ := asK_some h
    obtain ⟨b, hb, h⟩ := asK_some h
    have hx := hε x; have hy := hε y
    rw [ha] at hx; rw [hb] at hy
    obtain ⟨v, c, h1, h2, h3⟩ := binK_some (ox := x) (oy := y) hx hy h w
    refine ⟨_, c, h1, h2, fun o ho => ?_⟩
    simp only [execOp, ho]
    simp only [Sem.run_bind] at h3 ⊢
    rw [h3]
    simp
  -- unOp
  · rename_i op t x
    obtain ⟨a, ha, h⟩ := asK_some h
    have hx := hε x
    rw [ha] at hx
    unfold unK at h
    split at h
    · simp only [FVR, VR] at hx
      exact ⟨_, _, h, fvr_int, fun o ho => by simp [execOp, ho, hx, Op.unary, Op.intArith, wr_eq]⟩
    · simp only [FVR, VR] at hx
      exact ⟨_, _, h, fvr_bool, fun o ho => by simp [execOp, ho, hx, Op.unary]⟩
    · cases h
  -- convert
  · rename_i src dst x
    obtain ⟨a, ha, h⟩ := asK_some h
    have hx := hε x
    rw [ha] at hx
    unfold convK at h
    split at h
    · rename_i hs hu
      simp only [FVR, VR] at hx
      refine ⟨_, _, h, fvr_int, fun o ho => ?_⟩
      simp [execOp, ho, hx, convert, run_underlying hs, run_underlying hu, Conv.intToInt, wr_eq]
    · cases h
  -- makeInterface
  · rename_i t x
    obtain ⟨a, ha, h⟩ := asK_some h
    have hx := hε x
    rw [ha] at hx
    split at h
    · cases h
    · rename_i d hn hu
      simp only [FVR] at hx
      refine ⟨_, .iface t (τ x), h, by simp only [FVR, VR]; exact ⟨_, rfl, hx⟩, fun o ho => ?_⟩
      simp only [execOp, ho, Instr.makeInterface, Sem.run_bind, run_underlying hu, Result.andThen_ok]
      simp
    · cases h
  -- makeFunc
  · rename_i name first caps
    split at h
    · rename_i x hf hc
      obtain ⟨v, hv, h⟩ := asK_some h
      have hx := hε x
      rw [hv] at hx
      have hf' : first = #[x] := by apply Array.ext'; simpa using hf
      have hc' : caps = #[] := by simpa using hc
      subst hf'; subst hc'
      refine ⟨_, .func (.method name) #[τ x] #[], h, ?_, fun o ho => ?_⟩
      · simp only [FVR, VR]
        exact ⟨_, rfl, hx⟩
      · simp [execOp, ho, Instr.makeFunc]
    · cases h
  · rename_i f first caps
    split at h
    · rename_i hf
      obtain ⟨vs, h, hs⟩ := argsK_some hε h
      have hf' : first = #[] := by simpa using hf
      subst hf'
      refine ⟨_, .func (.func f) #[] (caps.map τ), h, ?_, fun o ho => ?_⟩
      · simp only [FVR, VR]
        exact ⟨_, rfl, by simpa using hs⟩
      · simp [execOp, ho, Instr.makeFunc]
    · cases h
  -- fieldAddr
  · rename_i s x f
    split at h
    · rename_i p hp
      have hx := hε x
      split at h
      · rename_i r' g o' e; rw [e] at hx
        simp only [FVR, VR] at hx
        obtain ⟨i, hi, hx⟩ := hx
        refine ⟨_, .pointer (some ⟨i.blk, i.base + o' + p.1, none⟩), h, ?_, fun o ho => ?_⟩
        · simp only [FVR, VR]; exact ⟨i, hi, by simp [Nat.add_assoc]⟩
        · simp [execOp, ho, hx, run_fieldAt hp]
      · rename_i d' o' e; rw [e] at hx
        simp only [FVR] at hx
        obtain ⟨b, hb, hx⟩ := hx
        refine ⟨_, .pointer (some ⟨b, o' + p.1, none⟩), h, ?_, fun o ho => ?_⟩
        · simp only [FVR]; exact ⟨b, hb, rfl⟩
        · simp [execOp, ho, hx, run_fieldAt hp]
      · cases h
    · cases h
  -- field
  · rename_i t x f
    split at h
    · rename_i p hp
      have hx := hε x
      split at h
      · rename_i e; rw [e] at hx
        simp only [FVR, VR] at hx
        obtain ⟨ds, hx, hds, ho⟩ := hx
        obtain ⟨fs, y, hu, hy, hoff, hq, _⟩ := fieldOf_spec hp
        obtain ⟨v, c, h1, h2, h3⟩ := partK_some hds ho hq _ h w
        refine ⟨_, c, h1, h2, fun o ho => ?_⟩
        simp [execOp, ho, hx, Instr.field, run_underlying hu, hy, asAgg, hoff, h3]
      · cases h
    · cases h
  -- indexAddr
  · rename_i t x i
    obtain ⟨v, c, h1, h2, h3⟩ := idxK_some (hε x) (hε i) h w
    exact ⟨v, c, h1, h2, fun o ho => by simp [execOp, ho, h3]⟩
  -- index
  · rename_i t x i
    obtain ⟨v, c, h1, h2, h3⟩ := indexK_some (hε x) (hε i) h w
    exact ⟨v, c, h1, h2, fun o ho => by simp [execOp, ho, h3]⟩
  -- extract
  · rename_i t i
    have ht := hε t
    split at h
    · rename_i vs e
      rw [e] at ht
      simp only [FVR, VR] at ht
      obtain ⟨cs, ht, hs⟩ := ht
      cases hv : vs[i]? with
      | none => simp [hv] at h
      | some v =>
        simp only [hv, Option.bind_some] at h
        obtain ⟨c, hc, hvc⟩ := hs.get hv
        have hc' : cs[i]? = some c := by simpa using hc
        exact ⟨_, c, h, hvc, fun o ho => by simp [execOp, ho, ht, Instr.extract, hc']⟩
    · cases h
  -- build
  · rename_i t ps
    obtain ⟨l, h, hl⟩ := partsK_some hε h
    split at h
    · rename_i z hz hth
      obtain ⟨i, zv, hi, hzv, hzr⟩ := zeroCells_spec hz
      obtain ⟨hz1, hz2⟩ := hzr μ
      split at h
      · rename_i cs hcs
        obtain ⟨outs, hf, hr, ho, _⟩ := fillAll_spec hcs hz1 hz2 hl
        refine ⟨_, .agg outs, h, ?_, fun o ho' => ?_⟩
        · simp only [FVR, VR]; exact ⟨_, rfl, hr, ho⟩
        · have hf' : Instr.fill (placeOf P t) zv.cells (ps.toList.map fun (i, x) => (i, τ x)) = some outs := by simpa using hf
          have hb := run_build (w := w) hi hzv hth hf'
          have hps : (ps.map fun (i, x) => (i, τ x)) = (ps.toList.map fun (i, x) => (i, τ x)).toArray := by apply Array.ext'; simp
          simp only [execOp, ho', hps, Sem.run_bind, hb]
          simp
      · cases h
    · cases h
  -- calls of builtins
  · rename_i c
    split at h
    · rename_i hcal
      split at h
      · rename_i x t hx ht
        obtain ⟨v, d, h1, h2, h3⟩ := lenK_some (hε x) h w c.argTypes.size
        refine ⟨v, d, h1, h2, fun o ho => ?_⟩
        have h4 : c.args = #[x] := by apply Array.ext'; simpa using hx
        have h5 : c.argTypes = #[t] := by apply Array.ext'; simpa using ht
        have h6 : ∀ ty', (Builtin.len_ #[t] ty' #[τ x]).run P w = .ok d w := fun ty' => h3
        simp [execOp, ho, resolve, hcal, invoke, builtin, h4, h5, h6]
      · cases h
    · rename_i hcal
      split at h
      · rename_i x t hx ht
        have hx' := hε x
        split at h
        · rename_i e hu hxe
          rw [hxe] at hx'
          simp only [FVR, VR] at hx'
          refine ⟨_, .int .i64 0, h, by simp [FVR, VR], fun o ho => ?_⟩
          have h4 : c.args = #[x] := by apply Array.ext'; simpa using hx
          have h5 : c.argTypes = #[t] := by apply Array.ext'; simpa using ht
          simp [execOp, ho, resolve, hcal, invoke, builtin, h4, h5, Builtin.cap_, run_underlying hu, hx', goInt]
        · cases h
      · cases h
    · rename_i hcal
      split at h
      · rename_i x y hx
        have hx' := hε x; have hy' := hε y
        split at h
        · rename_i ex ey
          rw [ex] at hx'; rw [ey] at hy'
          simp only [FVR, VR] at hx' hy'
          split at h
          · have h4 : c.args = #[x, y] := by apply Array.ext'; simpa using hx
            refine ⟨_, _, h, fvr_int, fun o ho => ?_⟩
            simp [execOp, ho, resolve, hcal, invoke, builtin, h4, Builtin.min_, Builtin.min2, hx', hy']
          · cases h
        · cases h
      · cases h
    · rename_i hcal
      split at h
      · rename_i x y hx
        have hx' := hε x; have hy' := hε y
        split at h
        · rename_i ex ey
          rw [ex] at hx'; rw [ey] at hy'
          simp only [FVR, VR] at hx' hy'
          split at h
          · have h4 : c.args = #[x, y] := by apply Array.ext'; simpa using hx
            refine ⟨_, _, h, fvr_int, fun o ho => ?_⟩
            simp [execOp, ho, resolve, hcal, invoke, builtin, h4, Builtin.max_, Builtin.max2, hx', hy']
          · cases h
        · cases h
      · cases h
    · cases h
  · cases h
end
end Go.Ev
