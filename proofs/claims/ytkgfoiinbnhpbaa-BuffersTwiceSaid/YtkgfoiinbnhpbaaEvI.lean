/- How the relation goes on when memory is made or written. -/
import Derived.Test.YtkgfoiinbnhpbaaEvH
namespace Go.Ev
open Go Go.RowKit

def Mu.ext (μ : Mu) (r g : Nat) (i : Info) : Mu := fun r' g' => if r' = r ∧ g' = g then some i else μ r' g'
theorem Mu.ext_le {μ : Mu} {r g : Nat} {i : Info} (h : μ r g = none) : μ.le (μ.ext r g i) := by
  intro r' g' j hj
  unfold Mu.ext
  split
  · rename_i e
    rw [e.1, e.2, h] at hj
    cases hj
  · exact hj
theorem Mu.ext_some {μ : Mu} {r g r' g' : Nat} {i j : Info} (h : μ.ext r g i r' g' = some j) : (r' = r ∧ g' = g ∧ j = i) ∨ (¬ (r' = r ∧ g' = g) ∧ μ r' g' = some j) := by
  unfold Mu.ext at h
  split at h
  · rename_i e; cases h; exact .inl ⟨e.1, e.2, rfl⟩
  · rename_i e; exact .inr ⟨e, h⟩
theorem Mu.ext_img {μ : Mu} {r g k : Nat} {i : Info} (h : img (μ.ext r g i) k) : img μ k ∨ k = i.blk := by
  obtain ⟨r', g', j, hj, rfl⟩ := h
  rcases Mu.ext_some hj with ⟨_, _, rfl⟩ | ⟨_, hj⟩
  · exact .inr rfl
  · exact .inl ⟨r', g', j, hj, rfl⟩

section
variable {P : Program} {base : Nat} {w0 we w w' : World} {μe μ ν : Mu} {β : Bt} {F : Fr} {h h' : Hp} {a : Act} {ρ : Type}

theorem FR.ext {eb : Nat} (hf : FR eb μ β F a w) (hle : μ.le ν) (hi : ∀ k, img ν k → img μ k ∨ w.heap.size ≤ k) : FR eb ν β F a w := by
  refine ⟨hf.defers, hf.size, fun t => (hf.slots t).mono hle, fun d cs hd => ?_, hf.inj⟩
  obtain ⟨b, h1, h2, h3, h4, h5, c, e, h6, h7⟩ := hf.vars d cs hd
  refine ⟨b, h1, h2, h3, fun hb => ?_, h5, c, e, h6, VRs.mono hle _ _ h7⟩
  rcases hi b hb with hb | hb
  · exact h4 hb
  · omega

/-- Rows have been made or written, by an operation or a call: what lies in no view's block is as it was. -/
theorem ST.heap (st : ST base w0 μe we μ β F h a w) (hr : HR base w0 ν h' w') (hle : μ.le ν) (hi : ∀ k, img ν k → img μ k ∨ w.heap.size ≤ k)
    (hk : ∀ k, k < w.heap.size → ¬ img μ k → w'.heap[k]? = w.heap[k]?) (hs : w.heap.size ≤ w'.heap.size) : ST base w0 μe we ν β F h' a w' := by
  refine ⟨Mu.le_trans st.le hle, fun k hk' => ?_, fun k hlt hn => ?_, Nat.le_trans st.size hs, st.bas, hr, ?_⟩
  · rcases hi k hk' with h1 | h1
    · exact st.grow k h1
    · exact .inr (Nat.le_trans st.size h1)
  · have hn' : ¬ img μ k := fun hm => by
      rcases st.grow k hm with h1 | h1
      · exact hn h1
      · omega
    rw [hk k (Nat.lt_of_lt_of_le hlt st.size) hn']
    exact st.keep k hlt hn
  · refine (st.fr.ext hle hi).move hs fun d cs b hd hb => ?_
    obtain ⟨b', h1, h2, h3, h4, _⟩ := st.fr.vars d cs hd
    rw [hb] at h1
    cases h1
    exact hk b h3 h4

theorem below_alloc' (hb : Below base w0 w) (hs : base ≤ w.heap.size) (o : Obj) : Below base w0 (w.alloc o) := hb.alloc hs o

theorem below_setRow (hb : Below base w0 w) {g : Nat} (hg : base ≤ g) (cs : Array Value) : Below base w0 (w.setRow g cs) :=
  hb.trans ⟨rfl, rfl, rfl, by simp [World.setRow], fun k hk => setRow_other w g k cs (by omega)⟩
theorem size_setRow (w : World) (g : Nat) (cs : Array Value) : (w.setRow g cs).heap.size = w.heap.size := by simp [World.setRow]

/-- A new row in a new block. -/
theorem HR.newRow (hr : HR base w0 μ h w) (hs : base ≤ w.heap.size) {x : Row} {arr : Array Value} {e : TypeId} {g cap : Nat} (hro : x.ro = false) (hone : ∀ v ∈ x.cells, v.one = true)
    (hg : g * x.size = x.cells.length) (hcap : g ≤ cap) (hsz : arr.size = cap * x.size) (hv : ∀ (j : Nat) (v : V), x.cells[j]? = some v → ∃ c, arr[j]? = some c ∧ VR μ v c) :
    HR base w0 (μ.ext h.next g ⟨w.heap.size, 0, cap, x.size⟩) (h.new x) (w.alloc (.cells arr e)) ∧ μ.le (μ.ext h.next g ⟨w.heap.size, 0, cap, x.size⟩) := by
  have hn : ∀ g, μ h.next g = none := (hr.fresh h.next (Nat.le_refl _)).2
  have hle : μ.le (μ.ext h.next g ⟨w.heap.size, 0, cap, x.size⟩) := Mu.ext_le (hn g)
  have hnew : (w.alloc (.cells arr e)).heap[w.heap.size]? = some (.cells arr e) := heap_alloc_new w _
  have hold : ∀ k, k < w.heap.size → (w.alloc (.cells arr e)).heap[k]? = w.heap[k]? := fun k hk => heap_alloc_old w _ k hk
  have hrows : ∀ r y, (h.new x).rows r = some y → (r = h.next ∧ y = x) ∨ (r ≠ h.next ∧ h.rows r = some y) := by
    intro r y hy
    simp only [Hp.new] at hy
    split at hy
    · rename_i e; cases hy; exact .inl ⟨e, rfl⟩
    · rename_i e; exact .inr ⟨e, hy⟩
  refine ⟨⟨below_alloc' hr.below hs _, fun r hr' => ?_, fun r y hy => ?_, fun r y hy g' i hi => ?_, fun r y hy g' i hi hc => ?_, fun r y hy ho g' i hi hc hg' => ?_, fun r y hy ho g' i hi g'' i' hi' hb => ?_, fun r y hy ho g' i hi r' x' g'' i' hx' hi' hb => ?_, fun k hk => ?_⟩, hle⟩
  · have hne : r ≠ h.next := by simp only [Hp.new] at hr'; omega
    have hf := hr.fresh r (by simp only [Hp.new] at hr'; omega)
    refine ⟨?_, fun g' => ?_⟩
    · simp [Hp.new, hne, hf.1]
    · simp [Mu.ext, hne, hf.2]
  · rcases hrows r y hy with ⟨rfl, rfl⟩ | ⟨_, hy⟩
    · exact hone
    · exact hr.ones r y hy
  · rcases hrows r y hy with ⟨rfl, rfl⟩ | ⟨hne, hy⟩
    · rcases Mu.ext_some hi with ⟨_, rfl, rfl⟩ | ⟨_, hi⟩
      · exact Nat.le_of_eq hg
      · rw [hn] at hi; cases hi
    · rcases Mu.ext_some hi with ⟨he, _, _⟩ | ⟨_, hi⟩
      · exact absurd he hne
      · exact hr.len r y hy g' i hi
  · rcases hrows r y hy with ⟨rfl, rfl⟩ | ⟨hne, hy⟩
    · rcases Mu.ext_some hi with ⟨_, rfl, rfl⟩ | ⟨_, hi⟩
      · refine ⟨rfl, hcap, fun j v _ hvj => ?_⟩
        obtain ⟨c, hc, hvc⟩ := hv j v hvj
        refine ⟨c, ?_, VR.mono hle _ _ hvc⟩
        rw [Nat.zero_add, cell_of_row _ _ _ _ _ _ hnew]
        exact hc
      · rw [hn] at hi; cases hi
    · rcases Mu.ext_some hi with ⟨he, _, _⟩ | ⟨_, hi⟩
      · exact absurd he hne
      · obtain ⟨h1, h2, h3⟩ := hr.view r y hy g' i hi hc
        refine ⟨h1, h2, fun j v hj hvj => ?_⟩
        obtain ⟨c, hc, hvc⟩ := h3 j v hj hvj
        refine ⟨c, ?_, VR.mono hle _ _ hvc⟩
        rw [← hc]
        exact World.cell?_of_block (hold i.blk (hr.imgb _ ⟨r, g', i, hi, rfl⟩))
  · rcases hrows r y hy with ⟨rfl, rfl⟩ | ⟨hne, hy⟩
    · rcases Mu.ext_some hi with ⟨_, rfl, rfl⟩ | ⟨_, hi⟩
      · exact ⟨hs, arr, e, hnew, by simpa using hsz⟩
      · rw [hn] at hi; cases hi
    · rcases Mu.ext_some hi with ⟨he, _, _⟩ | ⟨_, hi⟩
      · exact absurd he hne
      · obtain ⟨h2, c, e', h3, h4⟩ := hr.own r y hy ho g' i hi hc hg'
        exact ⟨h2, c, e', by rw [hold _ (hr.imgb _ ⟨r, g', i, hi, rfl⟩)]; exact h3, h4⟩
  · rcases hrows r y hy with ⟨rfl, rfl⟩ | ⟨hne, hy⟩
    · rcases Mu.ext_some hi with ⟨_, _, rfl⟩ | ⟨_, hj⟩
      · rcases Mu.ext_some hi' with ⟨_, _, rfl⟩ | ⟨_, hj'⟩
        · rfl
        · rw [hn] at hj'; cases hj'
      · rw [hn] at hj; cases hj
    · rcases Mu.ext_some hi with ⟨he, _, _⟩ | ⟨_, hj⟩
      · exact absurd he hne
      · rcases Mu.ext_some hi' with ⟨he, _, _⟩ | ⟨_, hj'⟩
        · exact absurd he hne
        · exact hr.same r y hy ho g' i hj g'' i' hj' hb
  · rcases Mu.ext_some hi with ⟨rfl, rfl, rfl⟩ | ⟨_, hj⟩
    · rcases Mu.ext_some hi' with ⟨rfl, _, _⟩ | ⟨_, hj'⟩
      · rfl
      · have := hr.imgb _ ⟨r', g'', i', hj', rfl⟩
        simp only at hb; omega
    · rcases Mu.ext_some hi' with ⟨rfl, rfl, rfl⟩ | ⟨_, hj'⟩
      · have := hr.imgb _ ⟨r, g', i, hj, rfl⟩
        simp only at hb; omega
      · rcases hrows r y hy with ⟨rfl, rfl⟩ | ⟨_, hy⟩
        · rw [hn] at hj; cases hj
        · rcases hrows r' x' hx' with ⟨rfl, _⟩ | ⟨_, hx''⟩
          · rw [hn] at hj'; cases hj'
          · exact hr.apart r y hy ho g' i hj r' x' g'' i' hx'' hj' hb
  · rcases Mu.ext_img hk with hk | rfl
    · have := hr.imgb k hk; simp; omega
    · simp

theorem cell_setRow (w : World) {b : Nat} {c : Array Value} {e : TypeId} {fz : Nat × Nat} (hb : w.heap[b]? = some (.cells c e fz)) (c' : Array Value) (j : Nat) : (w.setRow b c').cell? ⟨b, j, none⟩ = c'[j]? :=
  cell_of_row _ _ _ _ _ _ (setRow_heap w b c c' e fz hb)

/-- A list with a part written over. -/
theorem over_get {α : Type} (A B : List α) {k j : Nat} (h : k + B.length ≤ A.length) : (A.take k ++ B ++ A.drop (k + B.length))[j]? = if k ≤ j ∧ j < k + B.length then B[j - k]? else A[j]? := by
  rw [List.append_assoc, List.getElem?_append]
  have hl : (A.take k).length = k := by simp; omega
  rw [hl]
  split
  · rename_i h1
    rw [if_neg (by omega), List.getElem?_take, if_pos h1]
  · rename_i h1
    rw [List.getElem?_append]
    split
    · rename_i h2
      rw [if_pos (by omega)]
    · rename_i h2
      rw [if_neg (by omega), List.getElem?_drop]
      congr 1
      omega

/-- What a view's cells are behind a write to a row's own block, from some place on. -/
theorem HR.storeRow (hr : HR base w0 μ h w) {r g o : Nat} {x : Row} {i : Info} (hx : h.rows r = some x) (hi : μ r g = some i) (hnow : x.now g) {vs : List V} {ds : List Value} (hvs : VRs μ vs ds)
    (hone : ∀ v ∈ vs, v.one = true) (hle : o + vs.length ≤ x.cells.length) :
    ∃ c e, w.heap[i.blk]? = some (.cells c e (0, 0)) ∧ base ≤ i.blk ∧ i.base + o + ds.length ≤ c.size ∧
      HR base w0 μ (h.put r { cells := splice x.cells o vs, size := x.size, bytes := x.bytes, clean := g, ro := x.ro }) (w.setRow i.blk (c.toList.take (i.base + o) ++ ds ++ c.toList.drop (i.base + o + ds.length)).toArray) := by
  obtain ⟨hcl, hgl, hro⟩ := hnow
  obtain ⟨hbb, c, e, hblk, hcs⟩ := hr.own r x hx hro g i hi hcl hgl
  obtain ⟨his, hgc, hview⟩ := hr.view r x hx g i hi hcl
  have hdl := hvs.length
  have hcsz : i.base + x.cells.length ≤ c.size := by rw [hcs, ← hgl]; have := Nat.mul_le_mul_right x.size hgc; omega
  have hfit : i.base + o + ds.length ≤ c.size := by omega
  have hlen' : (splice x.cells o vs).length = x.cells.length := by unfold splice; simp; omega
  have harr : (c.toList.take (i.base + o) ++ ds ++ c.toList.drop (i.base + o + ds.length)).length = c.size := by simp; omega
  refine ⟨c, e, hblk, hbb, hfit, ?_⟩
  have hput : ∀ r' y, (h.put r { cells := splice x.cells o vs, size := x.size, bytes := x.bytes, clean := g, ro := x.ro }).rows r' = some y →
      (r' = r ∧ y = { cells := splice x.cells o vs, size := x.size, bytes := x.bytes, clean := g, ro := x.ro }) ∨ (r' ≠ r ∧ h.rows r' = some y) := by
    intro r' y hy
    simp only [Hp.put] at hy
    split at hy
    · rename_i e; cases hy; exact .inl ⟨e, rfl⟩
    · rename_i e; exact .inr ⟨e, hy⟩
  have hold : ∀ r' y, (h.put r { cells := splice x.cells o vs, size := x.size, bytes := x.bytes, clean := g, ro := x.ro }).rows r' = some y → ∃ z, h.rows r' = some z := by
    intro r' y hy
    rcases hput r' y hy with ⟨rfl, _⟩ | ⟨_, hy⟩
    · exact ⟨x, hx⟩
    · exact ⟨y, hy⟩
  have hoth : ∀ k, k ≠ i.blk → (w.setRow i.blk (c.toList.take (i.base + o) ++ ds ++ c.toList.drop (i.base + o + ds.length)).toArray).heap[k]? = w.heap[k]? := fun k hk => setRow_other w _ _ _ hk
  have hapart : ∀ r' x' g' i', h.rows r' = some x' → μ r' g' = some i' → r' ≠ r → i'.blk ≠ i.blk := fun r' x' g' i' hx' hi' hne hb => hne (hr.apart r x hx hro g i hi r' x' g' i' hx' hi' hb)
  refine ⟨below_setRow hr.below hbb _, fun r' hr' => ?_, fun r' y hy => ?_, fun r' y hy g' i' hi' => ?_, fun r' y hy g' i' hi' hc' => ?_, fun r' y hy ho g' i' hi' hc' hg' => ?_, fun r' y hy ho g' i' hi' g'' i'' hi'' hb => ?_, fun r' y hy ho g' i' hi' r'' x'' g'' i'' hx'' hi'' hb => ?_, fun k hk => ?_⟩
  · have hf := hr.fresh r' hr'
    refine ⟨?_, hf.2⟩
    have hne : r' ≠ r := fun e => by subst e; rw [hf.1] at hx; cases hx
    simp [Hp.put, hne, hf.1]
  · rcases hput r' y hy with ⟨rfl, rfl⟩ | ⟨_, hy⟩
    · intro v hv
      simp only [splice] at hv
      rcases List.mem_append.1 hv with hv | hv
      · rcases List.mem_append.1 hv with hv | hv
        · exact hr.ones _ x hx v (List.mem_of_mem_take hv)
        · exact hone v hv
      · exact hr.ones _ x hx v (List.mem_of_mem_drop hv)
    · exact hr.ones r' y hy
  · rcases hput r' y hy with ⟨rfl, rfl⟩ | ⟨_, hy⟩
    · simp only [hlen']; exact hr.len _ x hx g' i' hi'
    · exact hr.len r' y hy g' i' hi'
  · rcases hput r' y hy with ⟨rfl, rfl⟩ | ⟨hne, hy⟩
    · simp only at hc' ⊢
      -- only the newest view counts still
      have hlen2 := hr.len _ x hx g' i' hi'
      by_cases hsz0 : x.size = 0
      · have hi2 := hr.view _ x hx g' i' hi' (by omega)
        refine ⟨hi2.1, hi2.2.1, fun j v hj _ => ?_⟩
        simp only [hsz0, Nat.mul_zero, Nat.not_lt_zero] at hj
      · have hgg : g' = g := by
          have h1 : g' * x.size ≤ g * x.size := by omega
          have := Nat.le_of_mul_le_mul_right h1 (by omega)
          omega
        subst hgg
        rw [hi] at hi'
        cases hi'
        refine ⟨his, hgc, fun j v hj hvj => ?_⟩
        have hj : j < g' * x.size := hj
        have hvj : (splice x.cells o vs)[j]? = some v := hvj
        unfold splice at hvj
        rw [over_get _ _ hle] at hvj
        have hcell : (w.setRow i.blk (c.toList.take (i.base + o) ++ ds ++ c.toList.drop (i.base + o + ds.length)).toArray).cell? ⟨i.blk, i.base + j, none⟩ =
            if i.base + o ≤ i.base + j ∧ i.base + j < i.base + o + ds.length then ds[i.base + j - (i.base + o)]? else c.toList[i.base + j]? := by
          rw [cell_setRow w hblk, List.getElem?_toArray, over_get _ _ (by simp; omega)]
        rw [hcell]
        split at hvj
        · rename_i hin
          rw [if_pos (by omega)]
          obtain ⟨c', hc', hvc⟩ := hvs.get hvj
          exact ⟨c', by rw [← hc']; congr 1; omega, hvc⟩
        · rename_i hin
          rw [if_neg (by omega)]
          obtain ⟨c', hc', hvc⟩ := hview j v hj hvj
          rw [cell_of_row w _ _ _ _ _ hblk] at hc'
          exact ⟨c', by simpa using hc', hvc⟩
    · obtain ⟨h1, h2, h3⟩ := hr.view r' y hy g' i' hi' hc'
      refine ⟨h1, h2, fun j v hj hvj => ?_⟩
      obtain ⟨c', hc', hvc⟩ := h3 j v hj hvj
      refine ⟨c', ?_, hvc⟩
      rw [← hc']
      exact World.cell?_of_block (hoth _ (hapart r' y g' i' hy hi' hne))
  · rcases hput r' y hy with ⟨rfl, rfl⟩ | ⟨hne, hy⟩
    · simp only at hc' hg' ⊢
      rw [hlen'] at hg'
      obtain ⟨k2, c2, e2, k3, k4⟩ := hr.own _ x hx hro g' i' hi' (by omega) hg'
      by_cases hbk : i'.blk = i.blk
      · rw [hbk] at k3
        rw [hblk] at k3
        cases k3
        refine ⟨k2, (c.toList.take (i.base + o) ++ ds ++ c.toList.drop (i.base + o + ds.length)).toArray, e, ?_, ?_⟩
        · rw [hbk]; exact setRow_heap w _ _ _ _ _ hblk
        · simp only [List.size_toArray, harr]; exact k4
      · exact ⟨k2, c2, e2, by rw [hoth _ hbk]; exact k3, k4⟩
    · obtain ⟨k2, c2, e2, k3, k4⟩ := hr.own r' y hy ho g' i' hi' hc' hg'
      exact ⟨k2, c2, e2, by rw [hoth _ (hapart r' y g' i' hy hi' hne)]; exact k3, k4⟩
  · rcases hput r' y hy with ⟨rfl, rfl⟩ | ⟨_, hy⟩
    · exact hr.same _ x hx hro g' i' hi' g'' i'' hi'' hb
    · exact hr.same r' y hy ho g' i' hi' g'' i'' hi'' hb
  · obtain ⟨z, hz⟩ := hold r'' x'' hx''
    rcases hput r' y hy with ⟨rfl, rfl⟩ | ⟨_, hy⟩
    · exact hr.apart _ x hx hro g' i' hi' r'' z g'' i'' hz hi'' hb
    · exact hr.apart r' y hy ho g' i' hi' r'' z g'' i'' hz hi'' hb
  · rw [size_setRow]; exact hr.imgb k hk
end
end Go.Ev
