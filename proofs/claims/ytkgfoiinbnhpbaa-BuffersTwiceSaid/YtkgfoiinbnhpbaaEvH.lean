/- Operations that read: loads, slice expressions, the cells of a list. -/
import Derived.Test.YtkgfoiinbnhpbaaEvG
namespace Go.Ev
open Go Go.RowKit
section
variable {P : Program} {base : Nat} {w0 we w w' : World} {μe μ : Mu} {β : Bt} {F : Fr} {h : Hp} {a : Act} {ρ : Type}

theorem loadK_some (hr : HR base w0 μ h w) {eb : Nat} (hf : FR eb μ β F a w) {t : TypeId} {x : FV} {cx : Value} {k : FV → Option ρ} {r : ρ} (hx : FVR μ β x cx) (hk : loadK P t x F h k = some r) :
    ∃ v c, k v = some r ∧ FVR μ β v c ∧ (Instr.loadAt t cx).run P w = .ok c w := by
  unfold loadK at hk
  split at hk
  · rename_i q hq
    split at hk
    · rename_i r' g o
      cases hrow : h.rows r' with
      | none => simp [hrow] at hk
      | some x =>
        simp only [hrow, Option.bind_some] at hk
        split at hk
        · rename_i hc
          obtain ⟨⟨hcl, hgl⟩, ho1, ho2⟩ := hc
          simp only [FVR, VR] at hx
          obtain ⟨i, hi, rfl⟩ := hx
          obtain ⟨_, _, hv⟩ := hr.view r' x hrow g i hi hcl
          obtain ⟨v, c, h1, h2, h3⟩ := run_loadAt (w := w) (μ := μ) hq i.blk i.base o (hr.ones r' x hrow) (.inl (by omega))
            (fun j v hj hvj hje => hv j v (by
              cases hq1 : q.1 with
              | true => have := hj hq1; omega
              | false => have := hje hq1; omega) hvj) hk
          exact ⟨_, c, h1, h2, h3⟩
        · cases hk
    · rename_i d o
      cases hv : F.vars d with
      | none => simp [hv] at hk
      | some cs =>
        simp only [hv, Option.bind_some] at hk
        simp only [FVR] at hx
        obtain ⟨b', hb', rfl⟩ := hx
        obtain ⟨b, hb, _, _, _, hone, c, e, hw, hcs⟩ := hf.vars d cs hv
        rw [hb] at hb'
        have hbe := Option.some.inj hb'
        subst hbe
        have hlen : o + q.2 ≤ cs.length ∨ q.1 = false := by
          cases hq1 : q.1 with
          | false => exact .inr rfl
          | true =>
            left
            unfold partK at hk
            rw [hq1] at hk
            simp only at hk
            split at hk
            · assumption
            · cases hk
        obtain ⟨v, c, h1, h2, h3⟩ := run_loadAt (w := w) (μ := μ) hq b 0 o hone hlen
          (fun j v _ hvj _ => by
            obtain ⟨c', hc', hvc⟩ := hcs.get hvj
            refine ⟨c', ?_, hvc⟩
            rw [Nat.zero_add, cell_of_row w b j c e (0, 0) hw]
            simpa using hc') hk
        rw [Nat.zero_add] at h3
        exact ⟨_, c, h1, h2, h3⟩
    · cases hk
  · cases hk

/-- An optional operand. -/
def OR (μ : Mu) (β : Bt) : Option FV → Option Value → Prop
  | none, c => c = none
  | some x, c => ∃ u, c = some u ∧ FVR μ β x u

theorem boundK_some {x : Option FV} {cx : Option Value} {d top : Nat} {k : Nat → Option ρ} {r : ρ} (hx : OR μ β x cx) (hk : boundK x d top k = some r) :
    ∃ n, k n = some r ∧ ((cx = none ∧ n = d) ∨ ∃ kd i, cx = some (.int kd i) ∧ 0 ≤ i ∧ i ≤ top ∧ n = i.toNat) := by
  unfold boundK at hk
  split at hk
  · exact ⟨_, hk, .inl ⟨hx, rfl⟩⟩
  · split at hk
    · rename_i hc
      simp only [OR, FVR, VR] at hx
      obtain ⟨u, rfl, rfl⟩ := hx
      exact ⟨_, hk, .inr ⟨_, _, rfl, hc.1, hc.2, rfl⟩⟩
    · cases hk
  · cases hk

theorem run_sliceBound (kd : IntKind) (i : Int) (y : Nat) (code : BoundsCode) (h0 : 0 ≤ i) (h1 : i ≤ y) (w : World) : (Instr.sliceBound (.int kd i) y code).run P w = .ok i.toNat w := by
  simp [Instr.sliceBound, asIntOf, h0, h1]

theorem run_sliceBounds {isS : Bool} {len cap top n m : Nat} {lo hi : Option Value} (hcap : top ≤ cap) (w : World)
    (hh : (hi = none ∧ n = len) ∨ ∃ kd i, hi = some (.int kd i) ∧ 0 ≤ i ∧ i ≤ top ∧ n = i.toNat)
    (hl : (lo = none ∧ m = 0) ∨ ∃ kd i, lo = some (.int kd i) ∧ 0 ≤ i ∧ i ≤ n ∧ m = i.toNat) :
    (Instr.sliceBounds isS len cap lo hi none).run P w = .ok (m, n, cap) w := by
  unfold Instr.sliceBounds
  rcases hh with ⟨rfl, rfl⟩ | ⟨kd, i, rfl, hi0, hi1, rfl⟩
  · rcases hl with ⟨rfl, rfl⟩ | ⟨kd', j, rfl, hj0, hj1, rfl⟩
    · simp
    · simp [run_sliceBound kd' j _ _ hj0 hj1]
  · have hb := fun code => run_sliceBound (P := P) kd i cap code hi0 (by omega) w
    rcases hl with ⟨rfl, rfl⟩ | ⟨kd', j, rfl, hj0, hj1, rfl⟩
    · cases isS <;> simp [hb]
    · cases isS <;> simp [hb, run_sliceBound kd' j _ _ hj0 hj1]

theorem sliceK_some {t : TypeId} {x : FV} {cx : Value} {lo hi : Option FV} {clo chi : Option Value} {k : FV → Option ρ} {r : ρ} (hx : FVR μ β x cx) (hlo : OR μ β lo clo) (hhi : OR μ β hi chi)
    (hk : sliceK P t x lo hi k = some r) (w : World) : ∃ v c, k v = some r ∧ FVR μ β v c ∧ (Instr.sliceAt t cx clo chi none).run P w = .ok c w := by
  unfold sliceK at hk
  split at hk
  · rename_i e hu
    split at hk
    · rename_i q hq
      obtain ⟨_, hsz, _⟩ := ty_spec hq w
      split at hk
      · rename_i r' g s o n
        split at hk
        · rename_i hs
          have hs := of_decide_eq_true hs
          subst hs
          simp only [FVR, VR] at hx
          obtain ⟨i, ad, cap, hi', rfl, hsi, hn, hc1, hc2, had⟩ := hx
          obtain ⟨n', hk1, hh⟩ := boundK_some hhi hk
          obtain ⟨m', hk2, hl⟩ := boundK_some hlo hk1
          have hb := run_sliceBounds (P := P) (isS := true) (len := n) (cap := cap) (top := g - o) (by omega) w hh hl
          have hn' : n' ≤ cap := by
            rcases hh with ⟨_, rfl⟩ | ⟨_, j, _, _, _, rfl⟩ <;> omega
          have hm' : m' ≤ n' := by
            rcases hl with ⟨_, rfl⟩ | ⟨_, j, _, _, _, rfl⟩ <;> omega
          refine ⟨_, .slice (some (if cap = m' then ad else ad.add (m' * q.2))) (n' - m') (cap - m'), hk2, ?_, ?_⟩
          · simp only [FVR, VR]
            refine ⟨i, _, _, hi', rfl, hsi, by omega, by omega, by omega, fun hne => ?_⟩
            rw [if_neg (by omega), had (by omega), addr_add]
            simp [Nat.add_mul, Nat.add_assoc]
          · simp only [Instr.sliceAt, Instr.slice, Sem.run_bind, run_underlying hu, Result.andThen_ok, hb, hsz, Sem.run_pure]
            split <;> simp_all
        · cases hk
      · simp only [FVR, VR] at hx
        subst hx
        obtain ⟨n', hk1, hh⟩ := boundK_some hhi hk
        obtain ⟨m', hk2, hl⟩ := boundK_some hlo hk1
        have hb := run_sliceBounds (P := P) (isS := true) (len := 0) (cap := 0) (top := 0) (by omega) w hh hl
        have hn' : n' = 0 := by
          rcases hh with ⟨_, rfl⟩ | ⟨_, j, _, _, _, rfl⟩ <;> omega
        have hm' : m' = 0 := by
          rcases hl with ⟨_, rfl⟩ | ⟨_, j, _, _, _, rfl⟩ <;> omega
        subst hn'; subst hm'
        refine ⟨_, .slice none 0 0, hk2, by simp only [FVR, VR], ?_⟩
        simp only [Instr.sliceAt, Instr.slice, Sem.run_bind, run_underlying hu, Result.andThen_ok, hb, hsz, Sem.run_pure]
        simp
      · cases hk
    · cases hk
  · rename_i hu
    split at hk
    · rename_i s
      simp only [FVR, VR] at hx
      subst hx
      obtain ⟨n', hk1, hh⟩ := boundK_some hhi hk
      obtain ⟨m', hk2, hl⟩ := boundK_some hlo hk1
      have hb := run_sliceBounds (P := P) (isS := false) (len := s.size) (cap := s.size) (top := s.size) (by omega) w hh hl
      refine ⟨_, .string (s.extract m' n'), hk2, by simp only [FVR, VR], ?_⟩
      simp only [Instr.sliceAt, Instr.slice, Sem.run_bind, run_underlying hu, Result.andThen_ok, hb, Sem.run_pure]
      simp [hb]
    · cases hk
  · cases hk

/-- The cells of a list that is appended or copied from: they lie where the model looks. -/
theorem sourceK_some (hr : HR base w0 μ h w) {eb : Nat} (hf : FR eb μ β F a w) {size : Nat} {x : FV} {cx : Value} {k : List V → Nat → Option ρ} {r : ρ} (hx : FVR μ β x cx) (hk : sourceK size F h x k = some r) :
    ∃ (cs : List V) (n : Nat) (ds : List Value), k cs n = some r ∧ VRs μ cs ds ∧ (∀ v ∈ cs, v.one = true) ∧ cs.length = n * size ∧
      ((cx = .slice none 0 0 ∧ n = 0) ∨ ∃ ad cap, cx = .slice (some ad) n cap ∧ ∀ (j : Nat) (c : Value), ds[j]? = some c → w.cell? (ad.add j) = some c) := by
  unfold sourceK at hk
  split at hk
  · rename_i d n
    cases hv : F.vars d with
    | none => simp [hv] at hk
    | some cs =>
      simp only [hv, Option.bind_some] at hk
      split at hk
      · rename_i hl
        simp only [FVR] at hx
        obtain ⟨b', hb', rfl⟩ := hx
        obtain ⟨b, hb, _, _, _, hone, c, e, hw, hcs⟩ := hf.vars d cs hv
        rw [hb] at hb'
        have hbe := Option.some.inj hb'
        subst hbe
        refine ⟨cs, n, c.toList, hk, hcs, hone, hl, .inr ⟨_, _, rfl, fun j u hu => ?_⟩⟩
        rw [addr_add, Nat.zero_add, cell_of_row w b j c e (0, 0) hw]
        simpa using hu
      · cases hk
  · simp only [FVR, VR] at hx
    subst hx
    exact ⟨[], 0, [], hk, VRs.nil, by simp, by simp, .inl ⟨rfl, rfl⟩⟩
  · rename_i r' g s o n
    cases hrow : h.rows r' with
    | none => simp [hrow] at hk
    | some x =>
      simp only [hrow, Option.bind_some] at hk
      split at hk
      · rename_i hc
        obtain ⟨rfl, ⟨hcl, hgl⟩, hog⟩ := hc
        simp only [FVR, VR] at hx
        obtain ⟨i, ad, cap, hi', rfl, hsi, hn, hc1, hc2, had⟩ := hx
        obtain ⟨his, _, hv⟩ := hr.view r' x hrow g i hi' hcl
        have hxs : x.size = s := by omega
        rw [hxs] at hv hgl
        have hle : o * s + n * s ≤ g * s := by rw [← Nat.add_mul]; exact Nat.mul_le_mul_right s hog
        have hones := hr.ones r' x hrow
        by_cases hn0 : n = 0
        · subst hn0
          refine ⟨_, 0, [], hk, by simpa using VRs.nil, by simp, by simp, .inr ⟨ad, cap, rfl, by simp⟩⟩
        · have had := had (by omega)
          subst had
          obtain ⟨ds, h1, h2⟩ := collect (w := w) (μ := μ) i.blk ((x.cells.drop (o * s)).take (n * s)) (i.base + o * s) fun j v hvj => by
            rw [List.getElem?_take] at hvj
            split at hvj
            · rw [List.getElem?_drop] at hvj
              have := hv (o * s + j) v (by omega) hvj
              rw [← Nat.add_assoc] at this
              exact this
            · cases hvj
          refine ⟨_, n, ds, hk, h1, fun v hv => hones v (List.mem_of_mem_drop (List.mem_of_mem_take hv)), by simp; omega, .inr ⟨_, cap, rfl, fun j c hj => ?_⟩⟩
          rw [addr_add]
          exact h2 j c hj
      · cases hk
  · cases hk
end
end Go.Ev
