/- How the relation goes on when a row grows, and when a frame's own variable is made or written. -/
import Derived.Test.YtkgfoiinbnhpbaaEvI
namespace Go.Ev
open Go Go.RowKit
section
variable {P : Program} {base : Nat} {w0 we w w' : World} {μe μ ν : Mu} {β : Bt} {F : Fr} {h h' : Hp} {a : Act} {ρ : Type}

theorem HR.drew (hr : HR base w0 μ h w) : HR base w0 μ h w.drew := hr.move ((Below.refl _ _).drew) fun _ _ => rfl

/-- A row grows by n elements, in its block or into a new one. -/
theorem HR.grow (hr : HR base w0 μ h w) {r g n B b0 cap : Nat} {x : Row} {i : Info} {vs : List V} {arr : Array Value} {e : TypeId} (hx : h.rows r = some x) (hi : μ r g = some i) (hnow : x.now g)
    (hn : 0 < n) (hsz : 0 < x.size) (hvl : vs.length = n * x.size) (hone : ∀ v ∈ vs, v.one = true) (hb : Below base w w') (hB : B = i.blk ∨ B = w.heap.size) (hbB : base ≤ B) (hb0 : B = i.blk → b0 = i.base)
    (hold : ∀ k, k < w.heap.size → k ≠ B → w'.heap[k]? = w.heap[k]?) (hnew : w'.heap[B]? = some (.cells arr e (0, 0))) (hcap : g + n ≤ cap) (hasz : arr.size = b0 + cap * x.size)
    (hv : ∀ (j : Nat) (v : V), (x.cells ++ vs)[j]? = some v → ∃ c, arr[b0 + j]? = some c ∧ VR μ v c) :
    HR base w0 (μ.ext r (g + n) ⟨B, b0, cap, x.size⟩) (h.put r { cells := x.cells ++ vs, size := x.size, bytes := x.bytes, clean := x.clean, ro := x.ro }) w' ∧ μ.le (μ.ext r (g + n) ⟨B, b0, cap, x.size⟩) := by
  obtain ⟨hcl, hgl, hro⟩ := hnow
  have hgn : (g + n) * x.size = (x.cells ++ vs).length := by rw [List.length_append, hvl, Nat.add_mul, hgl]
  have hnone : μ r (g + n) = none := by
    cases hm : μ r (g + n) with
    | none => rfl
    | some j =>
      have := hr.len r x hx _ _ hm
      rw [Nat.add_mul, hgl] at this
      have : 0 < n * x.size := Nat.mul_pos hn hsz
      omega
  have hle : μ.le (μ.ext r (g + n) ⟨B, b0, cap, x.size⟩) := Mu.ext_le hnone
  have hput : ∀ r' y, (h.put r { cells := x.cells ++ vs, size := x.size, bytes := x.bytes, clean := x.clean, ro := x.ro }).rows r' = some y →
      (r' = r ∧ y = { cells := x.cells ++ vs, size := x.size, bytes := x.bytes, clean := x.clean, ro := x.ro }) ∨ (r' ≠ r ∧ h.rows r' = some y) := by
    intro r' y hy
    simp only [Hp.put] at hy
    split at hy
    · rename_i e; cases hy; exact .inl ⟨e, rfl⟩
    · rename_i e; exact .inr ⟨e, hy⟩
  have hBs : B < w'.heap.size := (Array.getElem?_eq_some_iff.1 hnew).1
  -- a block of another row's view is none of this one's
  have hapart : ∀ r' x' g' i', h.rows r' = some x' → μ r' g' = some i' → r' ≠ r → i'.blk ≠ B := by
    intro r' x' g' i' hx' hi' hne he
    rcases hB with rfl | rfl
    · exact hne (hr.apart r x hx hro g i hi r' x' g' i' hx' hi' he)
    · have := hr.imgb _ ⟨r', g', i', hi', rfl⟩; omega
  have hcellB : ∀ j, w'.cell? ⟨B, j, none⟩ = arr[j]? := fun j => cell_of_row _ _ _ _ _ _ hnew
  refine ⟨⟨hr.below.trans hb, fun r' hr' => ?_, fun r' y hy => ?_, fun r' y hy g' i' hi' => ?_, fun r' y hy g' i' hi' hc' => ?_, fun r' y hy ho g' i' hi' hc' hg' => ?_, fun r' y hy ho g' i' hi' g'' i'' hi'' hb => ?_,
    fun r' y hy ho g' i' hi' r'' x'' g'' i'' hx'' hi'' hb => ?_, fun k hk => ?_⟩, hle⟩
  · have hf := hr.fresh r' hr'
    have hne : r' ≠ r := fun e => by subst e; rw [hf.1] at hx; cases hx
    exact ⟨by simp [Hp.put, hne, hf.1], fun g' => by simp [Mu.ext, hne, hf.2]⟩
  · rcases hput r' y hy with ⟨rfl, rfl⟩ | ⟨_, hy⟩
    · intro v hv
      rcases List.mem_append.1 hv with hv | hv
      · exact hr.ones _ x hx v hv
      · exact hone v hv
    · exact hr.ones r' y hy
  · rcases hput r' y hy with ⟨rfl, rfl⟩ | ⟨hne, hy⟩
    · rcases Mu.ext_some hi' with ⟨_, rfl, rfl⟩ | ⟨_, hj⟩
      · exact Nat.le_of_eq hgn
      · have := hr.len _ x hx g' i' hj
        simp only [List.length_append]; omega
    · rcases Mu.ext_some hi' with ⟨he, _, _⟩ | ⟨_, hj⟩
      · exact absurd he hne
      · exact hr.len r' y hy g' i' hj
  · rcases hput r' y hy with ⟨rfl, rfl⟩ | ⟨hne, hy⟩
    · rcases Mu.ext_some hi' with ⟨_, rfl, rfl⟩ | ⟨_, hj⟩
      · refine ⟨rfl, hcap, fun j v _ hvj => ?_⟩
        obtain ⟨c, hc, hvc⟩ := hv j v hvj
        exact ⟨c, by rw [hcellB]; exact hc, VR.mono hle _ _ hvc⟩
      · obtain ⟨h1, h2, h3⟩ := hr.view _ x hx g' i' hj hc'
        refine ⟨h1, h2, fun j v hjl hvj => ?_⟩
        have hjl : j < g' * x.size := hjl
        have hlen := hr.len _ x hx g' i' hj
        have hvj' : x.cells[j]? = some v := by
          rw [List.getElem?_append_left (by omega)] at hvj
          exact hvj
        by_cases hbk : i'.blk = B
        · obtain ⟨c, hc, hvc⟩ := hv j v hvj
          refine ⟨c, ?_, VR.mono hle _ _ hvc⟩
          have hBi : B = i.blk := by
            rcases hB with hB | hB
            · exact hB
            · have := hr.imgb _ ⟨_, g', i', hj, rfl⟩; omega
          rw [hr.same _ x hx hro g i hi g' i' hj (by rw [hbk, hBi]), ← hb0 hBi, hbk, hcellB]
          exact hc
        · obtain ⟨c, hc, hvc⟩ := h3 j v hjl hvj'
          refine ⟨c, ?_, VR.mono hle _ _ hvc⟩
          rw [← hc]
          exact World.cell?_of_block (hold _ (hr.imgb _ ⟨_, g', i', hj, rfl⟩) hbk)
    · rcases Mu.ext_some hi' with ⟨he, _, _⟩ | ⟨_, hj⟩
      · exact absurd he hne
      · obtain ⟨h1, h2, h3⟩ := hr.view r' y hy g' i' hj hc'
        refine ⟨h1, h2, fun j v hjl hvj => ?_⟩
        obtain ⟨c, hc, hvc⟩ := h3 j v hjl hvj
        refine ⟨c, ?_, VR.mono hle _ _ hvc⟩
        rw [← hc]
        exact World.cell?_of_block (hold _ (hr.imgb _ ⟨r', g', i', hj, rfl⟩) (hapart r' y g' i' hy hj hne))
  · rcases hput r' y hy with ⟨rfl, rfl⟩ | ⟨hne, hy⟩
    · rcases Mu.ext_some hi' with ⟨_, rfl, rfl⟩ | ⟨_, hj⟩
      · exact ⟨hbB, arr, e, hnew, hasz⟩
      · have := hr.len _ x hx g' i' hj
        have : 0 < n * x.size := Nat.mul_pos hn hsz
        simp only [List.length_append] at hg'
        omega
    · rcases Mu.ext_some hi' with ⟨he, _, _⟩ | ⟨_, hj⟩
      · exact absurd he hne
      · obtain ⟨k2, c, e', k3, k4⟩ := hr.own r' y hy ho g' i' hj hc' hg'
        exact ⟨k2, c, e', by rw [hold _ (hr.imgb _ ⟨r', g', i', hj, rfl⟩) (hapart r' y g' i' hy hj hne)]; exact k3, k4⟩
  · have hBold : ∀ g1 i1, μ r g1 = some i1 → i1.blk = B → i1.base = b0 := by
      intro g1 i1 h1 he
      have hBi : B = i.blk := by
        rcases hB with hB | hB
        · exact hB
        · have := hr.imgb _ ⟨_, g1, i1, h1, rfl⟩; omega
      rw [hr.same r x hx hro g i hi g1 i1 h1 (by rw [he, hBi]), hb0 hBi]
    rcases hput r' y hy with ⟨rfl, rfl⟩ | ⟨hne, hy⟩
    · rcases Mu.ext_some hi' with ⟨_, rfl, rfl⟩ | ⟨_, hj⟩
      · rcases Mu.ext_some hi'' with ⟨_, rfl, rfl⟩ | ⟨_, hj'⟩
        · rfl
        · exact hBold _ _ hj' hb
      · rcases Mu.ext_some hi'' with ⟨_, rfl, rfl⟩ | ⟨_, hj'⟩
        · exact (hBold _ _ hj hb.symm).symm
        · exact hr.same _ x hx hro g' i' hj g'' i'' hj' hb
    · rcases Mu.ext_some hi' with ⟨he, _, _⟩ | ⟨_, hj⟩
      · exact absurd he hne
      · rcases Mu.ext_some hi'' with ⟨he, _, _⟩ | ⟨_, hj'⟩
        · exact absurd he hne
        · exact hr.same r' y hy ho g' i' hj g'' i'' hj' hb
  · have hlive : ∀ r1 y1, (h.put r { cells := x.cells ++ vs, size := x.size, bytes := x.bytes, clean := x.clean, ro := x.ro }).rows r1 = some y1 → ∃ z, h.rows r1 = some z := by
      intro r1 y1 h1
      rcases hput r1 y1 h1 with ⟨rfl, _⟩ | ⟨_, h1⟩
      · exact ⟨x, hx⟩
      · exact ⟨y1, h1⟩
    obtain ⟨z, hz⟩ := hlive r' y hy
    obtain ⟨z'', hz''⟩ := hlive r'' x'' hx''
    rcases Mu.ext_some hi' with ⟨rfl, rfl, rfl⟩ | ⟨_, hj⟩
    · rcases Mu.ext_some hi'' with ⟨rfl, _, _⟩ | ⟨_, hj'⟩
      · rfl
      · by_cases hne : r'' = r'
        · exact hne
        · exact absurd hb (hapart r'' z'' g'' i'' hz'' hj' hne)
    · rcases Mu.ext_some hi'' with ⟨rfl, rfl, rfl⟩ | ⟨_, hj'⟩
      · by_cases hne : r' = r''
        · exact hne.symm
        · exact absurd hb.symm (hapart r' z g' i' hz hj hne)
      · rcases hput r' y hy with ⟨rfl, rfl⟩ | ⟨_, hy⟩
        · exact hr.apart _ x hx hro g' i' hj r'' z'' g'' i'' hz'' hj' hb
        · exact hr.apart r' y hy ho g' i' hj r'' z'' g'' i'' hz'' hj' hb
  · rcases Mu.ext_img hk with hk | rfl
    · exact Nat.lt_of_lt_of_le (hr.imgb k hk) hb.size
    · exact hBs

/-- A row dies. -/
theorem HR.del (hr : HR base w0 μ h w) (r : Nat) : HR base w0 μ (h.del r) w := by
  have hd : ∀ r' y, (h.del r).rows r' = some y → r' ≠ r ∧ h.rows r' = some y := by
    intro r' y hy
    simp only [Hp.del] at hy
    split at hy
    · cases hy
    · rename_i hne; exact ⟨hne, hy⟩
  refine ⟨hr.below, fun r' hr' => ?_, fun r' y hy => hr.ones r' y (hd r' y hy).2, fun r' y hy => hr.len r' y (hd r' y hy).2, fun r' y hy => hr.view r' y (hd r' y hy).2, fun r' y hy => hr.own r' y (hd r' y hy).2,
    fun r' y hy => hr.same r' y (hd r' y hy).2, fun r' y hy ho g i hi r'' x'' g' i' hx'' => hr.apart r' y (hd r' y hy).2 ho g i hi r'' x'' g' i' (hd r'' x'' hx'').2, hr.imgb⟩
  have hf := hr.fresh r' hr'
  refine ⟨?_, hf.2⟩
  simp only [Hp.del]
  split
  · rfl
  · exact hf.1

/-- A new row lies in a block that no row's view is in. -/
theorem HR.adopt (hr : HR base w0 μ h w) {B b0 : Nat} {x : Row} {arr : Array Value} {e : TypeId} {g cap : Nat} (hro : x.ro = false) (hone : ∀ v ∈ x.cells, v.one = true)
    (hg : g * x.size = x.cells.length) (hcap : g ≤ cap) (hb : Below base w w') (hbB : base ≤ B) (hfree : ∀ r' x' g' i', h.rows r' = some x' → μ r' g' = some i' → i'.blk ≠ B)
    (hold : ∀ k, k < w.heap.size → k ≠ B → w'.heap[k]? = w.heap[k]?) (hnew : w'.heap[B]? = some (.cells arr e (0, 0))) (hsz : arr.size = b0 + cap * x.size)
    (hv : ∀ (j : Nat) (v : V), x.cells[j]? = some v → ∃ c, arr[b0 + j]? = some c ∧ VR μ v c) :
    HR base w0 (μ.ext h.next g ⟨B, b0, cap, x.size⟩) (h.new x) w' ∧ μ.le (μ.ext h.next g ⟨B, b0, cap, x.size⟩) := by
  have hn : ∀ g, μ h.next g = none := (hr.fresh h.next (Nat.le_refl _)).2
  have hle : μ.le (μ.ext h.next g ⟨B, b0, cap, x.size⟩) := Mu.ext_le (hn g)
  have hBs : B < w'.heap.size := (Array.getElem?_eq_some_iff.1 hnew).1
  have hrows : ∀ r y, (h.new x).rows r = some y → (r = h.next ∧ y = x) ∨ (r ≠ h.next ∧ h.rows r = some y) := by
    intro r y hy
    simp only [Hp.new] at hy
    split at hy
    · rename_i e; cases hy; exact .inl ⟨e, rfl⟩
    · rename_i e; exact .inr ⟨e, hy⟩
  refine ⟨⟨hr.below.trans hb, fun r hr' => ?_, fun r y hy => ?_, fun r y hy g' i hi => ?_, fun r y hy g' i hi hc => ?_, fun r y hy ho g' i hi hc hg' => ?_, fun r y hy ho g' i hi g'' i' hi' hb => ?_, fun r y hy ho g' i hi r' x' g'' i' hx' hi' hb => ?_, fun k hk => ?_⟩, hle⟩
  · have hne : r ≠ h.next := by simp only [Hp.new] at hr'; omega
    have hf := hr.fresh r (by simp only [Hp.new] at hr'; omega)
    refine ⟨?_, fun g' => ?_⟩
    · simp [Hp.new, hne, hf.1]
    · simp [Mu.ext, hne, hf.2]
  · rcases hrows r y hy with ⟨rfl, rfl⟩ | ⟨_, hy⟩
    · exact hone
    · exact hr.ones r y hy
  · rcases hrows r y hy with ⟨rfl, rfl⟩ | ⟨hne, hy⟩
    · rcases Mu.ext_some hi with ⟨_, rfl, rfl⟩ | ⟨_, hi⟩
      · exact Nat.le_of_eq hg
      · rw [hn] at hi; cases hi
    · rcases Mu.ext_some hi with ⟨he, _, _⟩ | ⟨_, hi⟩
      · exact absurd he hne
      · exact hr.len r y hy g' i hi
  · rcases hrows r y hy with ⟨rfl, rfl⟩ | ⟨hne, hy⟩
    · rcases Mu.ext_some hi with ⟨_, rfl, rfl⟩ | ⟨_, hi⟩
      · refine ⟨rfl, hcap, fun j v _ hvj => ?_⟩
        obtain ⟨c, hc, hvc⟩ := hv j v hvj
        refine ⟨c, ?_, VR.mono hle _ _ hvc⟩
        rw [cell_of_row _ _ _ _ _ _ hnew]
        exact hc
      · rw [hn] at hi; cases hi
    · rcases Mu.ext_some hi with ⟨he, _, _⟩ | ⟨_, hi⟩
      · exact absurd he hne
      · obtain ⟨h1, h2, h3⟩ := hr.view r y hy g' i hi hc
        refine ⟨h1, h2, fun j v hj hvj => ?_⟩
        obtain ⟨c, hc, hvc⟩ := h3 j v hj hvj
        refine ⟨c, ?_, VR.mono hle _ _ hvc⟩
        rw [← hc]
        exact World.cell?_of_block (hold i.blk (hr.imgb _ ⟨r, g', i, hi, rfl⟩) (hfree r y g' i hy hi))
  · rcases hrows r y hy with ⟨rfl, rfl⟩ | ⟨hne, hy⟩
    · rcases Mu.ext_some hi with ⟨_, rfl, rfl⟩ | ⟨_, hi⟩
      · exact ⟨hbB, arr, e, hnew, hsz⟩
      · rw [hn] at hi; cases hi
    · rcases Mu.ext_some hi with ⟨he, _, _⟩ | ⟨_, hi⟩
      · exact absurd he hne
      · obtain ⟨h2, c, e', h3, h4⟩ := hr.own r y hy ho g' i hi hc hg'
        exact ⟨h2, c, e', by rw [hold _ (hr.imgb _ ⟨r, g', i, hi, rfl⟩) (hfree r y g' i hy hi)]; exact h3, h4⟩
  · rcases hrows r y hy with ⟨rfl, rfl⟩ | ⟨hne, hy⟩
    · rcases Mu.ext_some hi with ⟨_, _, rfl⟩ | ⟨_, hj⟩
      · rcases Mu.ext_some hi' with ⟨_, _, rfl⟩ | ⟨_, hj'⟩
        · rfl
        · rw [hn] at hj'; cases hj'
      · rw [hn] at hj; cases hj
    · rcases Mu.ext_some hi with ⟨he, _, _⟩ | ⟨_, hj⟩
      · exact absurd he hne
      · rcases Mu.ext_some hi' with ⟨he, _, _⟩ | ⟨_, hj'⟩
        · exact absurd he hne
        · exact hr.same r y hy ho g' i hj g'' i' hj' hb
  · rcases hrows r y hy with ⟨rfl, rfl⟩ | ⟨_, hy⟩
    · rcases hrows r' x' hx' with ⟨rfl, rfl⟩ | ⟨_, hx'⟩
      · rfl
      · rcases Mu.ext_some hi with ⟨_, rfl, rfl⟩ | ⟨_, hj⟩
        · rcases Mu.ext_some hi' with ⟨rfl, _, _⟩ | ⟨_, hj'⟩
          · rfl
          · exact absurd hb (hfree r' x' g'' i' hx' hj')
        · rw [hn] at hj; cases hj
    · rcases Mu.ext_some hi with ⟨rfl, rfl, rfl⟩ | ⟨_, hj⟩
      · rw [(hr.fresh h.next (Nat.le_refl _)).1] at hy; cases hy
      · rcases Mu.ext_some hi' with ⟨rfl, rfl, rfl⟩ | ⟨_, hj'⟩
        · exact absurd hb.symm (hfree r y g' i hy hj)
        · rcases hrows r' x' hx' with ⟨rfl, _⟩ | ⟨_, hx'⟩
          · rw [hn] at hj'; cases hj'
          · exact hr.apart r y hy ho g' i hj r' x' g'' i' hx' hj' hb
  · rcases Mu.ext_img hk with hk | rfl
    · exact Nat.lt_of_lt_of_le (hr.imgb k hk) hb.size
    · exact hBs

/-- A variable of the frame's own is written. -/
theorem FR.setVar {eb : Nat} (hf : FR eb μ β F a w) {d b : Nat} {cs cs' : List V} {c' : Array Value} {e : TypeId} (hd : F.vars d = some cs) (hb : β d = some b) (hs : w.heap.size ≤ w'.heap.size)
    (hold : ∀ k, k < w.heap.size → k ≠ b → w'.heap[k]? = w.heap[k]?) (hnew : w'.heap[b]? = some (.cells c' e (0, 0))) (hone : ∀ v ∈ cs', v.one = true) (hv : VRs μ cs' c'.toList) :
    FR eb μ β (F.setVar d cs') a w' := by
  refine ⟨hf.defers, hf.size, hf.slots, fun d' cs1 hd' => ?_, fun d1 d2 cs1 cs2 b1 h1 h2 h3 h4 => ?_⟩
  · simp only [Fr.setVar] at hd'
    split at hd'
    · rename_i he
      subst he
      cases hd'
      obtain ⟨b', h1, h2, h3, h4, _⟩ := hf.vars _ cs hd
      rw [hb] at h1
      cases h1
      exact ⟨b, hb, h2, Nat.lt_of_lt_of_le h3 hs, h4, hone, c', e, hnew, hv⟩
    · rename_i hne
      obtain ⟨b', h1, h2, h3, h4, h5, c, e', h6, h7⟩ := hf.vars d' cs1 hd'
      have hbb : b' ≠ b := fun he => hne (hf.inj d' d cs1 cs b hd' hd (he ▸ h1) hb)
      exact ⟨b', h1, h2, Nat.lt_of_lt_of_le h3 hs, h4, h5, c, e', by rw [hold b' h3 hbb]; exact h6, h7⟩
  · have hs1 : ∃ c, F.vars d1 = some c := by
      simp only [Fr.setVar] at h1
      split at h1
      · rename_i he; subst he; exact ⟨_, hd⟩
      · exact ⟨_, h1⟩
    have hs2 : ∃ c, F.vars d2 = some c := by
      simp only [Fr.setVar] at h2
      split at h2
      · rename_i he; subst he; exact ⟨_, hd⟩
      · exact ⟨_, h2⟩
    obtain ⟨c1, hc1⟩ := hs1
    obtain ⟨c2, hc2⟩ := hs2
    exact hf.inj d1 d2 c1 c2 b1 hc1 hc2 h3 h4

theorem anySelf_spec {d : Nat} : ∀ {l : List FV}, anySelf d l = false → ∀ x ∈ l, hasSelf d x = false
  | [], _, x, hx => by simp at hx
  | y :: l, h, x, hx => by
    unfold anySelf at h
    split at h
    · cases h
    · rename_i hy
      rcases List.mem_cons.1 hx with rfl | hx
      · exact hy
      · exact anySelf_spec h x hx

/-- A variable of the frame's own is made: 'x' is the place, or the list, that slot d then holds. -/
theorem FR.newVar {eb : Nat} (hf : FR eb μ β F a w) {d : Nat} {cs : List V} {arr : Array Value} {e : TypeId} {x : FV} {c : Value} (hs : eb ≤ w.heap.size) (hself : anySelf d (F.tmps.set d .bot) = false)
    (hone : ∀ v ∈ cs, v.one = true) (hv : VRs μ cs arr.toList) (himg : ∀ k, img μ k → k < w.heap.size)
    (hx : ∀ β' : Bt, β' d = some w.heap.size → FVR μ β' x c) :
    FR eb μ (fun i => if i = d then some w.heap.size else β i) ((F.setVar d cs).set d x) (a.put (some d) c) (w.alloc (.cells arr e)) := by
  have hnew : (w.alloc (.cells arr e)).heap[w.heap.size]? = some (.cells arr e) := heap_alloc_new w _
  have hold : ∀ k, k < w.heap.size → (w.alloc (.cells arr e)).heap[k]? = w.heap[k]? := fun k hk => heap_alloc_old w _ k hk
  have base : FR eb μ (fun i => if i = d then some w.heap.size else β i) (F.setVar d cs |>.set d .bot) (a.put (some d) undef) (w.alloc (.cells arr e)) := by
    refine ⟨hf.defers, by simp [Fr.set, Fr.setVar, Act.put, hf.size], fun t => ?_, fun d' cs1 hd' => ?_, fun d1 d2 cs1 cs2 b1 h1 h2 h3 h4 => ?_⟩
    · have hs' := hf.size
      show FVR μ _ (((F.setVar d cs).set d .bot).get t) ((a.tmps.setIfInBounds d undef).getD t undef)
      rw [get_set]
      split
      · trivial
      · rename_i hne
        have hne : ¬ (t = d ∧ d < F.tmps.length) := hne
        have hg : (a.tmps.setIfInBounds d undef).getD t undef = a.tmps.getD t undef := by
          simp only [Array.getD_eq_getD_getElem?, Array.getElem?_setIfInBounds]
          split
          · rename_i e; subst e
            have : ¬ d < a.tmps.size := by omega
            simp [this]
          · rfl
        rw [hg]
        have hsl := hf.slots t
        have hget : (F.setVar d cs).get t = F.get t := rfl
        rw [hget]
        -- the slot holds no place in d
        have hns : hasSelf d (F.get t) = false := by
          by_cases htl : t < F.tmps.length
          · by_cases htd : t = d
            · subst htd
              exact absurd ⟨rfl, htl⟩ hne
            · refine anySelf_spec hself _ ?_
              have : (F.tmps.set d FV.bot)[t]? = some (F.get t) := by
                rw [List.getElem?_set, if_neg (by omega)]
                simp [Fr.get, List.getD_eq_getElem?_getD, htl]
              exact List.mem_of_getElem? this
          · simp [Fr.get, List.getD_eq_getElem?_getD, List.getElem?_eq_none (by omega : F.tmps.length ≤ t), hasSelf]
        cases hfv : F.get t with
        | bot => trivial
        | v x => rw [hfv] at hsl; exact hsl
        | self d' o =>
          rw [hfv] at hsl hns
          simp only [FVR] at hsl ⊢
          simp [hasSelf] at hns
          obtain ⟨b, hb, hc⟩ := hsl
          exact ⟨b, by rw [if_neg hns]; exact hb, hc⟩
        | lit d' n =>
          rw [hfv] at hsl hns
          simp only [FVR] at hsl ⊢
          simp [hasSelf] at hns
          obtain ⟨b, hb, hc⟩ := hsl
          exact ⟨b, by rw [if_neg hns]; exact hb, hc⟩
    · simp only [Fr.set, Fr.setVar] at hd'
      split at hd'
      · rename_i he
        subst he
        cases hd'
        exact ⟨w.heap.size, by simp, hs, by simp, fun hm => by have := himg _ hm; omega, hone, arr, e, hnew, hv⟩
      · rename_i hne
        obtain ⟨b, h1, h2, h3, h4, h5, c, e', h6, h7⟩ := hf.vars d' cs1 hd'
        exact ⟨b, by simp [hne, h1], h2, by simp; omega, h4, h5, c, e', by rw [hold b h3]; exact h6, h7⟩
    · simp only [Fr.set, Fr.setVar] at h1 h2
      by_cases e1 : d1 = d
      · by_cases e2 : d2 = d
        · omega
        · rw [if_pos e1] at h3
          rw [if_neg e2] at h2 h4
          obtain ⟨b, k1, _, k3, _⟩ := hf.vars d2 cs2 h2
          rw [h4] at k1
          cases k1
          cases h3
          omega
      · by_cases e2 : d2 = d
        · rw [if_pos e2] at h4
          rw [if_neg e1] at h1 h3
          obtain ⟨b, k1, _, k3, _⟩ := hf.vars d1 cs1 h1
          rw [h3] at k1
          cases k1
          cases h4
          omega
        · rw [if_neg e1] at h1 h3
          rw [if_neg e2] at h2 h4
          exact hf.inj d1 d2 cs1 cs2 b1 h1 h2 h3 h4
  have := base.put (some d) (hx _ (by simp))
  have e1 : ((F.setVar d cs).set d .bot).put (some d) x = (F.setVar d cs).set d x := by simp [Fr.put, Fr.set, List.set_set]
  have e2 : (a.put (some d) undef).put (some d) c = a.put (some d) c := by simp [Act.put]
  rw [e1, e2] at this
  exact this
end
end Go.Ev
