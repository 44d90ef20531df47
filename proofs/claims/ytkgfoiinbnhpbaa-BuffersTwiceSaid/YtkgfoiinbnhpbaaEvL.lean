/- append: the model's run, and how the relation goes on. -/
import Derived.Test.YtkgfoiinbnhpbaaEvK
namespace Go.Ev
open Go Go.RowKit

/-- What is appended: so many elements of a list, or zeros. -/
inductive Src (P : Program) (t u : TypeId) (i : TypeInfo) (z : Value) (x : Value) (n : Nat) (ds : List Value) (w : World) : Prop where
  | list (a : Addr) (cap : Nat) : u = t → x = .slice (some a) n cap → ds.length = n * i.size → (∀ (j : Nat) (c : Value), ds[j]? = some c → w.cell? (a.add j) = some c) → Src P t u i z x n ds w
  | zeros (kd kd' : IntKind) (l : Int) : P.underlying u = some (.int kd') → x = .int kd l → 0 ≤ l → l ≤ 4611686018427387904 → n = l.toNat → l * i.bytes ≤ 281474976710656 → ds = (Builtin.zeroCells z.cells n).toList → Src P t u i z x n ds w

section
variable {P : Program} {base : Nat} {w0 we w w' : World} {μe μ ν : Mu} {β : Bt} {F : Fr} {h h' : Hp} {a : Act} {ρ : Type} {K : Act → World → Prop} {Q : Exit → Act → World → Prop}

theorem wrap_small {l : Int} (h0 : 0 ≤ l) (h1 : l ≤ 4611686018427387904) : IntKind.i64.wrap l = l := by
  rw [IntKind.wrap_i64]
  omega

theorem run_append_fit {t u ty' e e' : TypeId} {i : TypeInfo} {z x : Value} {n b o sLen sCap : Nat} {ds : List Value} {cur : Array Value} (ht : P.underlying t = some (.slice e)) (hi : P.info? e = some i) (hz : i.zero = some z) (hzs : z.cells.size = i.size)
    (hsz : 0 < i.size) (hs : Src P t u i z x n ds w) (hb : w.heap[b]? = some (.cells cur e' (0, 0))) (hroom : sLen + n ≤ sCap) (hfit : o + sLen * i.size + ds.length ≤ cur.size) (h1 : ∀ v ∈ ds, v.oneCell' = true) :
    (Builtin.append_ #[t, u] ty' #[.slice (some ⟨b, o, none⟩) sLen sCap, x]).run P w =
      .ok (.slice (some ⟨b, o, none⟩) (sLen + n) sCap) (w.setRow b (cur.toList.take (o + sLen * i.size) ++ ds ++ cur.toList.drop (o + sLen * i.size + ds.length)).toArray) := by
  have hst := run_storeCells_at P b (o + sLen * i.size) e' ds 0 cur w hb (by simpa using hfit) h1
  simp only [Nat.add_zero] at hst
  cases hs with
  | list a cap hut hx hl hc =>
    subst hut; subst hx
    have hf := run_firstCells_some (P := P) w i.size n a n cap ds hl hc
    simp [Builtin.append_, run_underlying ht, run_sizeOf w hi, Builtin.lenOf, hroom, hf, addr_add, hst]
  | zeros kd kd' l hut hx h0 h2 hn hb' hds =>
    subst hx
    have hw := wrap_small h0 h2
    have h3 : ¬ (l < 0) := by omega
    have h4 : ¬ (281474976710656 < l * (i.bytes : Int)) := by omega
    subst hn
    by_cases hn0 : l.toNat = 0
    · rw [hn0] at hroom hds
      have hd0 : ds = [] := by rw [hds]; simp [Builtin.zeroCells]
      subst hd0
      simp only [List.append_nil, List.length_nil, Nat.add_zero] at hst ⊢
      have hroom' : sLen ≤ sCap := by omega
      simp [Builtin.append_, run_underlying ht, run_underlying hut, run_sizeOf w hi, typeInfo, hi, asInt, asIntOf, hw, h3, h4, hn0, addr_add, hroom', hst]
    · have h5 : ¬ (l.toNat = 0 ∨ i.size = 0) := by omega
      have h6 : ¬ l.toNat * i.size = 0 := by have := Nat.mul_pos (Nat.pos_of_ne_zero hn0) hsz; omega
      have hz' : (zeroValue e).run P w = .ok z w := by simp [zeroValue, typeInfo, hi, hz]
      subst hds
      simp [Builtin.append_, run_underlying ht, run_underlying hut, run_sizeOf w hi, typeInfo, hi, asInt, asIntOf, hw, h3, h4, hroom, h5, h6, addr_add, hz', hst]

theorem Src.drew {t u : TypeId} {i : TypeInfo} {z x : Value} {n : Nat} {ds : List Value} (hs : Src P t u i z x n ds w) : Src P t u i z x n ds w.drew := by
  cases hs with
  | list a cap h1 h2 h3 h4 => exact .list a cap h1 h2 h3 (by simpa using h4)
  | zeros kd kd' l h1 h2 h3 h4 h5 h6 h7 => exact .zeros kd kd' l h1 h2 h3 h4 h5 h6 h7
theorem Src.len {t u : TypeId} {i : TypeInfo} {z x : Value} {n : Nat} {ds : List Value} (hzs : z.cells.size = i.size) (hs : Src P t u i z x n ds w) : ds.length = n * i.size := by
  cases hs with
  | list a cap h1 h2 h3 h4 => exact h3
  | zeros kd kd' l h1 h2 h3 h4 h5 h6 h7 => subst h7; simp [Builtin.zeroCells, hzs]

theorem run_append_more {t u ty' e : TypeId} {i : TypeInfo} {z x : Value} {n sLen sCap : Nat} {bs : Option Addr} {olds ds : List Value} (ht : P.underlying t = some (.slice e)) (hi : P.info? e = some i) (hz : i.zero = some z) (hzs : z.cells.size = i.size)
    (hsz : 0 < i.size) (hs : Src P t u i z x n ds w) (hol : olds.length = sLen * i.size) (hold : ∀ w1 : World, w1.heap = w.heap → (Builtin.firstCells i.size sLen (.slice bs sLen sCap)).run P w1 = .ok olds.toArray w1)
    (hlc : sLen ≤ sCap) (hn : sCap < sLen + n) (h62 : sLen + n ≤ 4611686018427387904) (hroom : (sLen + n) * i.bytes ≤ 140737488355328) :
    ∃ (arr : Array Value) (cap : Nat), (Builtin.append_ #[t, u] ty' #[.slice bs sLen sCap, x]).run P w = .ok (.slice (some ⟨w.heap.size, 0, none⟩) (sLen + n) cap) (w.drew.alloc (.cells arr e)) ∧
      sLen + n ≤ cap ∧ arr.size = cap * i.size ∧ arr.toList.take ((sLen + n) * i.size) = olds ++ ds := by
  have hfit := growslice_fits hn hroom
  have hdl := hs.len hzs
  have hge := grownCap_ge w (sLen + n) sCap e
  have h63' : ¬ (9223372036854775807 < ((sLen : Int) + (n : Int))) := by omega
  have h48' : ¬ (281474976710656 < Builtin.nextslicecap (sLen + n) sCap * i.bytes) := by omega
  have hn' : ¬ (sLen + n ≤ sCap) := by omega
  have hz' : ∀ w, (zeroValue e).run P w = .ok z w := fun w => by simp [zeroValue, typeInfo, hi, hz]
  have hs' := hs.drew
  have hold' := hold w.drew rfl
  have hle : (olds ++ ds).length = (sLen + n) * i.size := by rw [List.length_append, hol, hdl, Nat.add_mul]
  refine ⟨(olds ++ ds).toArray ++ Builtin.zeroCells z.cells (grownCap w (sLen + n) sCap e - (sLen + n)), grownCap w (sLen + n) sCap e, ?_, hge, ?_, ?_⟩
  · cases hs' with
    | list a cap hut hx hl hc =>
      subst hut; subst hx
      have hf := run_firstCells_some (P := P) w.drew i.size n a n cap ds hl hc
      simp [Builtin.append_, run_underlying ht, run_sizeOf w hi, typeInfo, hi, Builtin.lenOf, hn', h63', h48', Question.forced, hf, hold', hz', newRow, grownCap]
      congr 2
      apply Array.ext'
      simp
    | zeros kd kd' l hut hx h0 h2 hn1 hb' hds =>
      subst hx
      have hw := wrap_small h0 h2
      have h3 : ¬ (l < 0) := by omega
      have h4 : ¬ (281474976710656 < l * (i.bytes : Int)) := by omega
      subst hn1
      subst hds
      have h6 : ¬ l.toNat * i.size = 0 := by have := Nat.mul_pos (show 0 < l.toNat by omega) hsz; omega
      have h7 : ¬ (9223372036854775807 < (sLen : Int) + max l 0) := by omega
      simp [Builtin.append_, run_underlying ht, run_underlying hut, run_sizeOf w hi, typeInfo, hi, asInt, asIntOf, hw, h3, h4, hn', h7, h48', Question.forced, h6, hold', hz', newRow, grownCap]
      congr 2
      apply Array.ext'
      simp
  · simp only [Array.size_append, List.size_toArray, hle, size_zeroCells, hzs, ← Nat.add_mul]
    congr 1
    omega
  · simp only [Array.toList_append, ← hle]
    exact List.take_left
end
end Go.Ev
