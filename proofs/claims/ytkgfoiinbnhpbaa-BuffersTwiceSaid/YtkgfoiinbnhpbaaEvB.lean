/- The relation between the evaluator's values and heap and the model's. -/
import Derived.Test.YtkgfoiinbnhpbaaEvA
import Derived.Below
import Derived.Orders
import Derived.Laws.Append
import Derived.Laws.CopyRow
import Derived.Laws.CopyOwn
namespace Go.Ev
open Go Go.RowKit

/-- Where a view of a row lies: block, first cell, elements from there on, cells of an element. -/
structure Info where
  blk : Nat
  base : Nat
  cap : Nat
  size : Nat
abbrev Mu := Nat → Nat → Option Info
def Mu.le (μ ν : Mu) : Prop := ∀ r g i, μ r g = some i → ν r g = some i
theorem Mu.le_refl (μ : Mu) : μ.le μ := fun _ _ _ h => h
theorem Mu.le_trans {a b c : Mu} (h : a.le b) (k : b.le c) : a.le c := fun r g i e => k r g i (h r g i e)

mutual
def VR (μ : Mu) : V → Value → Prop
  | .bool b, c => c = .bool b
  | .int k n, c => c = .int k n
  | .str s, c => c = .string s
  | .nilp, c => c = .pointer none
  | .ptr r g o, c => ∃ i, μ r g = some i ∧ c = .pointer (some ⟨i.blk, i.base + o, none⟩)
  | .nils, c => c = .slice none 0 0
  | .sl r g s o n, c => ∃ i a cap, μ r g = some i ∧ c = .slice (some a) n cap ∧ i.size = s ∧ n ≤ cap ∧ o + cap ≤ i.cap ∧ g ≤ o + cap ∧ (cap ≠ 0 → a = ⟨i.blk, i.base + o * s, none⟩)
  | .fn f caps, c => ∃ cs, c = .func f #[] cs ∧ VRs μ caps cs.toList
  | .nilf, c => c = .nilFunc
  | .iface t v, c => ∃ u, c = .iface t u ∧ VR μ v u
  | .niliface, c => c = .nilIface
  | .agg vs, c => ∃ cs, c = .agg cs ∧ VRs μ vs cs.toList ∧ ∀ v ∈ vs, v.one = true
  | .tup vs, c => ∃ cs, c = .tuple cs ∧ VRs μ vs cs.toList
  | .meth name v, c => ∃ u, c = .func (.method name) #[u] #[] ∧ VR μ v u
def VRs (μ : Mu) : List V → List Value → Prop
  | [], l => l = []
  | v :: vs, l => ∃ c cs, l = c :: cs ∧ VR μ v c ∧ VRs μ vs cs
end

mutual
theorem VR.mono {μ ν : Mu} (h : μ.le ν) : ∀ (v : V) (c : Value), VR μ v c → VR ν v c
  | .bool _, _, e => by simpa [VR] using e
  | .int _ _, _, e => by simpa [VR] using e
  | .str _, _, e => by simpa [VR] using e
  | .nilp, _, e => by simpa [VR] using e
  | .ptr r g o, _, e => by
    simp only [VR] at e ⊢
    obtain ⟨i, hi, rfl⟩ := e
    exact ⟨i, h _ _ _ hi, rfl⟩
  | .nils, _, e => by simpa [VR] using e
  | .sl r g s o n, _, e => by
    simp only [VR] at e ⊢
    obtain ⟨i, a, cap, hi, rest⟩ := e
    exact ⟨i, a, cap, h _ _ _ hi, rest⟩
  | .fn f caps, _, e => by
    simp only [VR] at e ⊢
    obtain ⟨cs, rfl, hs⟩ := e
    exact ⟨cs, rfl, VRs.mono h caps _ hs⟩
  | .nilf, _, e => by simpa [VR] using e
  | .iface t v, _, e => by
    simp only [VR] at e ⊢
    obtain ⟨u, rfl, hu⟩ := e
    exact ⟨u, rfl, VR.mono h v u hu⟩
  | .niliface, _, e => by simpa [VR] using e
  | .agg vs, _, e => by
    simp only [VR] at e ⊢
    obtain ⟨cs, rfl, hs, ho⟩ := e
    exact ⟨cs, rfl, VRs.mono h vs _ hs, ho⟩
  | .tup vs, _, e => by
    simp only [VR] at e ⊢
    obtain ⟨cs, rfl, hs⟩ := e
    exact ⟨cs, rfl, VRs.mono h vs _ hs⟩
  | .meth name v, _, e => by
    simp only [VR] at e ⊢
    obtain ⟨u, rfl, hu⟩ := e
    exact ⟨u, rfl, VR.mono h v u hu⟩
theorem VRs.mono {μ ν : Mu} (h : μ.le ν) : ∀ (vs : List V) (cs : List Value), VRs μ vs cs → VRs ν vs cs
  | [], _, e => by simpa [VRs] using e
  | v :: vs, _, e => by
    simp only [VRs] at e ⊢
    obtain ⟨c, cs, rfl, hc, hs⟩ := e
    exact ⟨c, cs, rfl, VR.mono h v c hc, VRs.mono h vs cs hs⟩
end

section lists
variable {μ : Mu}
theorem VRs.nil : VRs μ [] [] := by simp [VRs]
theorem VRs.cons {v : V} {c : Value} {vs : List V} {cs : List Value} (h : VR μ v c) (k : VRs μ vs cs) : VRs μ (v :: vs) (c :: cs) := by
  simp only [VRs]; exact ⟨c, cs, rfl, h, k⟩
theorem VRs.uncons {v : V} {vs : List V} {l : List Value} (h : VRs μ (v :: vs) l) : ∃ c cs, l = c :: cs ∧ VR μ v c ∧ VRs μ vs cs := by
  simpa only [VRs] using h
theorem VRs.of_nil {l : List Value} (h : VRs μ [] l) : l = [] := by simpa only [VRs] using h
theorem VRs.length : ∀ {vs : List V} {cs : List Value}, VRs μ vs cs → cs.length = vs.length
  | [], _, h => by rw [h.of_nil]; rfl
  | v :: vs, _, h => by
    obtain ⟨c, cs, rfl, _, hs⟩ := h.uncons
    simp [hs.length]
theorem VRs.get : ∀ {vs : List V} {cs : List Value} {i : Nat} {v : V}, VRs μ vs cs → vs[i]? = some v → ∃ c, cs[i]? = some c ∧ VR μ v c
  | [], _, _, _, _, e => by simp at e
  | v :: vs, _, i, u, h, e => by
    obtain ⟨c, cs, rfl, hc, hs⟩ := h.uncons
    cases i with
    | zero => simp at e; subst e; exact ⟨c, rfl, hc⟩
    | succ i => simp at e ⊢; exact hs.get e
theorem VRs.of_get : ∀ {vs : List V} {cs : List Value}, cs.length = vs.length → (∀ (i : Nat) (v : V), vs[i]? = some v → ∃ c, cs[i]? = some c ∧ VR μ v c) → VRs μ vs cs
  | [], cs, hl, _ => by
    have : cs = [] := List.eq_nil_of_length_eq_zero (by simpa using hl)
    subst this; exact VRs.nil
  | v :: vs, cs, hl, h => by
    match cs, hl with
    | [], hl => simp at hl
    | c :: cs, hl =>
      obtain ⟨c', h0, hc⟩ := h 0 v rfl
      simp at h0; subst h0
      refine VRs.cons hc (VRs.of_get (by simpa using hl) fun i u hu => ?_)
      obtain ⟨c', hi, hc'⟩ := h (i + 1) u (by simpa using hu)
      exact ⟨c', by simpa using hi, hc'⟩
theorem VRs.take {vs : List V} {cs : List Value} (h : VRs μ vs cs) (n : Nat) : VRs μ (vs.take n) (cs.take n) := by
  refine VRs.of_get (by simp [h.length]) fun i v e => ?_
  rw [List.getElem?_take] at e ⊢
  split at e
  · rename_i hi; rw [if_pos hi]; exact h.get e
  · cases e
theorem VRs.drop {vs : List V} {cs : List Value} (h : VRs μ vs cs) (n : Nat) : VRs μ (vs.drop n) (cs.drop n) := by
  refine VRs.of_get (by simp [h.length]) fun i v e => ?_
  rw [List.getElem?_drop] at e ⊢
  exact h.get e
theorem VRs.append : ∀ {vs us : List V} {cs ds : List Value}, VRs μ vs cs → VRs μ us ds → VRs μ (vs ++ us) (cs ++ ds)
  | [], _, _, _, h, k => by rw [h.of_nil]; exact k
  | v :: vs, us, _, ds, h, k => by
    obtain ⟨c, cs, rfl, hc, hs⟩ := h.uncons
    exact VRs.cons hc (hs.append k)
theorem VRs.splice {vs us : List V} {cs ds : List Value} (h : VRs μ vs cs) (k : VRs μ us ds) (o : Nat) : VRs μ (Ev.splice vs o us) (cs.take o ++ ds ++ cs.drop (o + ds.length)) := by
  unfold Ev.splice
  rw [k.length]
  exact ((h.take o).append k).append (h.drop _)
end lists

theorem VR.one {μ : Mu} {v : V} {c : Value} (h : VR μ v c) (ho : v.one = true) : c.oneCell' = true := by
  cases v <;> simp only [VR] at h <;> simp only [V.one, Bool.false_eq_true] at ho
  all_goals first
    | (subst h; rfl)
    | (obtain ⟨_, _, rfl⟩ := h; rfl)
    | (obtain ⟨_, rfl, _⟩ := h; rfl)
    | (obtain ⟨_, _, _, _, rfl, _⟩ := h; rfl)

/-- The cells of a value that is no tuple. -/
theorem VR.cells {μ : Mu} {v : V} {c : Value} (h : VR μ v c) (ht : v.isTup = false) : VRs μ v.cells c.cells.toList ∧ ∀ x ∈ v.cells, x.one = true := by
  cases v
  case agg vs =>
    simp only [VR] at h
    obtain ⟨cs, rfl, hs, ho⟩ := h
    exact ⟨hs, ho⟩
  case tup => simp [V.isTup] at ht
  all_goals
    have hc : c.cells = #[c] := by
      simp only [VR] at h
      first
        | (subst h; rfl)
        | (obtain ⟨_, _, rfl⟩ := h; rfl)
        | (obtain ⟨_, rfl, _⟩ := h; rfl)
        | (obtain ⟨_, _, _, _, rfl, _⟩ := h; rfl)
    rw [hc]
    exact ⟨VRs.cons h VRs.nil, by simp [V.cells, V.one]⟩
theorem VRs.ones {μ : Mu} : ∀ {vs : List V} {cs : List Value}, VRs μ vs cs → (∀ v ∈ vs, v.one = true) → ∀ c ∈ cs, c.oneCell' = true
  | [], _, h, _ => by rw [h.of_nil]; simp
  | v :: vs, _, h, ho => by
    obtain ⟨c, cs, rfl, hc, hs⟩ := h.uncons
    intro x hx
    rcases List.mem_cons.1 hx with rfl | hx
    · exact hc.one (ho v (by simp))
    · exact hs.ones (fun u hu => ho u (by simp [hu])) x hx

/-- The blocks that views lie in. -/
def img (μ : Mu) (k : Nat) : Prop := ∃ r g i, μ r g = some i ∧ i.blk = k

/-- A view of a row that still counts. -/
def RowView (x : Row) (w : World) (μ : Mu) (g : Nat) (i : Info) : Prop :=
  i.size = x.size ∧ g ≤ i.cap ∧ ∀ j v, j < g * x.size → x.cells[j]? = some v → ∃ c, w.cell? ⟨i.blk, i.base + j, none⟩ = some c ∧ VR μ v c
/-- The newest view of a row that may be written: its block is the row's own. -/
def RowOwn (x : Row) (w : World) (base : Nat) (i : Info) : Prop :=
  base ≤ i.blk ∧ ∃ c e, w.heap[i.blk]? = some (.cells c e (0, 0)) ∧ c.size = i.base + i.cap * x.size

structure HR (base : Nat) (w0 : World) (μ : Mu) (h : Hp) (w : World) : Prop where
  below : Below base w0 w
  fresh : ∀ r, h.next ≤ r → h.rows r = none ∧ ∀ g, μ r g = none
  ones : ∀ r x, h.rows r = some x → ∀ v ∈ x.cells, v.one = true
  len : ∀ r x, h.rows r = some x → ∀ g i, μ r g = some i → g * x.size ≤ x.cells.length
  view : ∀ r x, h.rows r = some x → ∀ g i, μ r g = some i → x.clean ≤ g → RowView x w μ g i
  own : ∀ r x, h.rows r = some x → x.ro = false → ∀ g i, μ r g = some i → x.clean ≤ g → g * x.size = x.cells.length → RowOwn x w base i
  same : ∀ r x, h.rows r = some x → x.ro = false → ∀ g i, μ r g = some i → ∀ g' i', μ r g' = some i' → i'.blk = i.blk → i'.base = i.base
  apart : ∀ r x, h.rows r = some x → x.ro = false → ∀ g i, μ r g = some i → ∀ r' x' g' i', h.rows r' = some x' → μ r' g' = some i' → i'.blk = i.blk → r' = r
  imgb : ∀ k, img μ k → k < w.heap.size
end Go.Ev
