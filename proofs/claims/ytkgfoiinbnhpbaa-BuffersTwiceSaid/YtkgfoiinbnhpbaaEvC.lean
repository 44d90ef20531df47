/- Operations that look at the frame's slots alone: the model's run of each is what the evaluator says. -/
import Derived.Test.YtkgfoiinbnhpbaaEvB
import Derived.Laws.StructEq
namespace Go.Ev
open Go Go.RowKit

abbrev Bt := Nat → Option Nat
def FVR (μ : Mu) (β : Bt) : FV → Value → Prop
  | .bot, _ => True
  | .v x, c => VR μ x c
  | .self d o, c => ∃ b, β d = some b ∧ c = .pointer (some ⟨b, o, none⟩)
  | .lit d n, c => ∃ b, β d = some b ∧ c = .slice (some ⟨b, 0, none⟩) n n

theorem ofConst_rel (μ : Mu) (β : Bt) (c : Value) : FVR μ β (ofConst c) c := by
  unfold ofConst
  split <;> simp [FVR, VR]

section
variable {P : Program} {μ : Mu} {β : Bt} {ρ : Type}

theorem run_sizeOf {t : TypeId} {i : TypeInfo} (w : World) (h : P.info? t = some i) : (Go.sizeOf t).run P w = .ok i.size w := by
  simp [Go.sizeOf, typeInfo, h]
theorem run_isAgg {t : TypeId} {d : TypeDesc} (w : World) (h : P.underlying t = some d) : (Go.isAgg t).run P w = .ok (match d with | .struct _ | .array _ _ => true | _ => false) w := by
  unfold Go.isAgg
  simp only [Sem.run_bind, run_underlying h, Result.andThen_ok]
  cases d <;> simp

theorem ty_spec {t : TypeId} {q : Bool × Nat} (h : ty P t = some q) (w : World) :
    (Go.isAgg t).run P w = .ok q.1 w ∧ (Go.sizeOf t).run P w = .ok q.2 w ∧ ∃ i, P.info? t = some i ∧ i.size = q.2 := by
  have hi : ∃ i, P.info? t = some i := by
    cases hh : P.info? t with
    | some i => exact ⟨i, rfl⟩
    | none => simp [ty, Program.underlying, hh] at h
  obtain ⟨i, hi⟩ := hi
  have hc : P.cellsOf t = i.size := by simp [Program.cellsOf, hi]
  unfold ty at h
  cases hd : P.underlying t with
  | none => simp [hd] at h
  | some d =>
    simp only [hd] at h
    refine ⟨?_, ?_, i, hi, ?_⟩
    · rw [run_isAgg w hd]; cases d <;> (simp only [Option.some.injEq] at h; subst h; rfl)
    · rw [run_sizeOf w hi]; cases d <;> (simp only [Option.some.injEq] at h; subst h; simp [hc])
    · cases d <;> (simp only [Option.some.injEq] at h; subst h; simp [hc])

theorem one_part {μ : Mu} {cs : List V} {ds : List Value} (h : VRs μ cs ds) (ho : ∀ v ∈ cs, v.one = true) {t : TypeId} {q : Bool × Nat} (hq : ty P t = some q) (off : Nat)
    {k : V → Option ρ} {r : ρ} (hk : partK q.1 q.2 cs off k = some r) (w : World) :
    ∃ v c, k v = some r ∧ VR μ v c ∧ (part t ds.toArray off).run P w = .ok c w ∧ (v.isTup = false) := by
  obtain ⟨h1, h2, _⟩ := ty_spec hq w
  unfold partK at hk
  split at hk
  · rename_i e
    split at hk
    · rename_i hle
      refine ⟨_, .agg (ds.toArray.extract off (off + q.2)), hk, ?_, ?_, rfl⟩
      · simp only [VR]
        refine ⟨_, rfl, ?_, fun v hv => ho v (List.mem_of_mem_drop (List.mem_of_mem_take hv))⟩
        have : (ds.toArray.extract off (off + q.2)).toList = (ds.drop off).take q.2 := by simp
        rw [this]
        exact (h.drop off).take q.2
      · simp [part, h1, h2, e]
    · cases hk
  · rename_i e
    cases hv : cs[off]? with
    | none => simp [hv] at hk
    | some v =>
      obtain ⟨c, hc, hvc⟩ := h.get hv
      simp only [hv, Option.bind_some] at hk
      have hone := ho v (List.mem_of_getElem? hv)
      refine ⟨v, c, hk, hvc, ?_, ?_⟩
      · simp [part, h1, e, hc]
      · cases v <;> simp_all [V.one, V.isTup]

theorem asK_some {x : FV} {k : V → Option ρ} {r : ρ} (h : asK x k = some r) : ∃ v, x = .v v ∧ k v = some r := by
  unfold asK at h
  split at h
  · exact ⟨_, rfl, h⟩
  · cases h
end

section
variable {P : Program} {μ : Mu} {β : Bt} {ρ : Type}

theorem argsK_some {ε : Operand → FV} {τ : Operand → Value} (hε : ∀ x, FVR μ β (ε x) (τ x)) :
    ∀ {l : List Operand} {k : List V → Option ρ} {r : ρ}, argsK ε l k = some r → ∃ vs, k vs = some r ∧ VRs μ vs (l.map τ)
  | [], k, r, h => ⟨[], h, VRs.nil⟩
  | x :: l, k, r, h => by
    obtain ⟨v, hv, h⟩ := asK_some h
    obtain ⟨vs, h, hs⟩ := argsK_some hε h
    have := hε x
    rw [hv] at this
    exact ⟨v :: vs, h, VRs.cons this hs⟩

/-- Pairs of a place and a value. -/
def PR (μ : Mu) : List (Nat × V) → List (Nat × Value) → Prop
  | [], l => l = []
  | (i, v) :: vs, l => ∃ c cs, l = (i, c) :: cs ∧ VR μ v c ∧ PR μ vs cs
theorem partsK_some {ε : Operand → FV} {τ : Operand → Value} (hε : ∀ x, FVR μ β (ε x) (τ x)) :
    ∀ {l : List (Nat × Operand)} {k : List (Nat × V) → Option ρ} {r : ρ}, partsK ε l k = some r → ∃ vs, k vs = some r ∧ PR μ vs (l.map fun (i, x) => (i, τ x))
  | [], k, r, h => ⟨[], h, by simp [PR]⟩
  | (i, x) :: l, k, r, h => by
    obtain ⟨v, hv, h⟩ := asK_some h
    obtain ⟨vs, h, hs⟩ := partsK_some hε h
    have := hε x
    rw [hv] at this
    refine ⟨(i, v) :: vs, h, ?_⟩
    simp only [PR, List.map_cons]
    exact ⟨_, _, rfl, this, hs⟩

theorem ofZero_rel {z : Value} {v : V} (h : ofZero z = some v) (μ : Mu) : VR μ v z ∧ v.one = true := by
  unfold ofZero at h
  split at h <;> first
    | cases h
    | skip
  all_goals simp [VR, V.one]
theorem ofZeros_rel : ∀ {zs : List Value} {vs : List V}, ofZeros zs = some vs → ∀ μ, VRs μ vs zs ∧ ∀ v ∈ vs, v.one = true
  | [], vs, h, μ => by simp [ofZeros] at h; subst h; exact ⟨VRs.nil, by simp⟩
  | z :: zs, vs, h, μ => by
    unfold ofZeros at h
    split at h
    · rename_i v us hv hus
      cases h
      obtain ⟨h1, h2⟩ := ofZero_rel hv μ
      obtain ⟨h3, h4⟩ := ofZeros_rel hus μ
      exact ⟨VRs.cons h1 h3, fun u hu => by
        rcases List.mem_cons.1 hu with rfl | hu
        · exact h2
        · exact h4 u hu⟩
    · cases h
theorem zeroCells_spec {t : TypeId} {z : List V} (h : zeroCells P t = some z) :
    ∃ i zv, P.info? t = some i ∧ i.zero = some zv ∧ ∀ μ, VRs μ z zv.cells.toList ∧ ∀ v ∈ z, v.one = true := by
  unfold zeroCells at h
  split at h
  · rename_i i hi
    split at h
    · rename_i zv hz
      exact ⟨i, zv, hi, hz, fun μ => ofZeros_rel h μ⟩
    · cases h
  · cases h

theorem fillStep (cs ds : List Value) (off : Nat) (hle : off + ds.length ≤ cs.length) :
    (ds.toArray.zipIdx.foldl (fun cs (c, j) => cs.setIfInBounds (off + j) c) cs.toArray).toList = cs.take off ++ ds ++ cs.drop (off + ds.length) := by
  have key : ∀ (ds : List Value) (k : Nat) (cs : List Value), off + k + ds.length ≤ cs.length →
      ((ds.zipIdx k).foldl (fun (cs : Array Value) (x : Value × Nat) => cs.setIfInBounds (off + x.2) x.1) cs.toArray).toList = cs.take (off + k) ++ ds ++ cs.drop (off + k + ds.length) := by
    intro ds
    induction ds with
    | nil => intro k cs h; simp
    | cons d ds ih =>
      intro k cs h
      simp only [List.length_cons] at h
      simp only [List.zipIdx_cons, List.foldl_cons, List.setIfInBounds_toArray]
      rw [ih (k + 1) (cs.set (off + k) d) (by simp; omega)]
      have := list_seg_step cs (off + k) d ds (by omega)
      simpa [Nat.add_assoc, Nat.add_comm, Nat.add_left_comm] using this
  have := key ds 0 cs (by simpa using hle)
  simpa using this

theorem fillAll_spec {place : Nat → Option (Nat × Nat)} : ∀ {cs : List V} {l : List (Nat × V)} {out : List V} {zs : List Value} {m : List (Nat × Value)},
    fillAll place cs l = some out → VRs μ cs zs → (∀ v ∈ cs, v.one = true) → PR μ l m →
    ∃ outs, Instr.fill place zs.toArray m = some outs ∧ VRs μ out outs.toList ∧ (∀ v ∈ out, v.one = true) ∧ out.length = cs.length
  | cs, [], out, zs, m, h, hz, ho, hp => by
    simp only [fillAll, Option.some.injEq] at h
    simp only [PR] at hp
    subst h; subst hp
    exact ⟨zs.toArray, rfl, hz, ho, rfl⟩
  | cs, (i, x) :: rest, out, zs, m, h, hz, ho, hp => by
    simp only [PR] at hp
    obtain ⟨c, m', rfl, hc, hp⟩ := hp
    simp only [fillAll] at h
    split at h
    · rename_i p hpl
      split at h
      · rename_i cs' hcs
        unfold fillOne at hcs
        split at hcs
        · rename_i hd
          obtain ⟨ht, hl, hle⟩ := of_decide_eq_true hd
          cases hcs
          obtain ⟨hxc, hxo⟩ := hc.cells ht
          have hcl : c.cells.size = p.2 := by have := hxc.length; simp at this; omega
          have hlen : (splice cs p.1 x.cells).length = cs.length := by unfold splice; simp; omega
          have hin := fillStep zs c.cells.toList p.1 (by have h1 := hz.length; simp only [Array.length_toList]; omega)
          have hz' : VRs μ (splice cs p.1 x.cells) (c.cells.zipIdx.foldl (fun cs (c, j) => cs.setIfInBounds (p.1 + j) c) zs.toArray).toList := by
            simp only [Array.toArray_toList] at hin
            rw [hin]
            exact hz.splice hxc p.1
          have ho' : ∀ v ∈ splice cs p.1 x.cells, v.one = true := by
            intro v hv
            unfold splice at hv
            rcases List.mem_append.1 hv with hv | hv
            · rcases List.mem_append.1 hv with hv | hv
              · exact ho v (List.mem_of_mem_take hv)
              · exact hxo v hv
            · exact ho v (List.mem_of_mem_drop hv)
          obtain ⟨outs, hf, hr, hro, hlo⟩ := fillAll_spec h hz' ho' hp
          refine ⟨outs, ?_, hr, hro, by omega⟩
          have hsz := hz.length
          simp only [Instr.fill, hpl, List.size_toArray]
          rw [if_neg (by simp only [Bool.or_eq_true, decide_eq_true_eq, not_or]; exact ⟨fun hne => hne hcl, by omega⟩)]
          simpa using hf
        · cases hcs
      · cases h
    · cases h
end
end Go.Ev
