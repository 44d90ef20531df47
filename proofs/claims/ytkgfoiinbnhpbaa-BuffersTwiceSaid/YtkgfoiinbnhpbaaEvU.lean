/- A region whose order is drawn: loads and operations on slots are taken first, new variables ahead of all. -/
import Derived.Test.YtkgfoiinbnhpbaaEvT
namespace Go.Ev
open Go Go.RowKit
section
variable {E : Env} {C : AFun} {f : Nat} {ops : Array Oper} {A : Nat → Bool} {W : Nat → Nat → Bool} {T : List Pend} {Fin : Fr → Hp → Prop} {F G : Fr} {h : Hp} {o : Oper}

theorem getD_both' {listed : Array Bool} {i : Nat} (h : listed.getD i true = false) : listed.getD i false = false := by
  rcases Nat.lt_or_ge i listed.size with h' | h'
  · simp [h'] at h ⊢; exact h
  · simp [Array.getElem?_eq_none h'] at h

theorem AnyT.mono {T T' : List Pend} (hsub : ∀ p ∈ T, p ∈ T') : ∀ (n : Nat) (L : Array Bool) (F : Fr) (h : Hp), AnyT E C f ops A W T' Fin n L F h → AnyT E C f ops A W T Fin n L F h
  | 0, _, _, _, H => H
  | n + 1, _, _, _, H => ⟨H.1, fun j hj => by
    obtain ⟨oj, F', h', hoj, hk, hchk, H'⟩ := H.2 j hj
    exact ⟨oj, F', h', hoj, hk, fun p hp => hchk p (hsub p hp), AnyT.mono hsub n _ _ _ H'⟩⟩

/-- What is listed waits for nothing that is not. -/
structure Cl (ops : Array Oper) (L : Array Bool) : Prop where
  size : L.size = ops.size
  closed : ∀ j oj, ops[j]? = some oj → L.getD j false = true → ∀ e ∈ oj.after, Region.binds .any e = true → L.getD e.on false = true

theorem Cl.set {i : Nat} {L : Array Bool} (cl : Cl ops L) (hi : i ∈ Region.ready .any ops L) : Cl ops (L.setIfInBounds i true) := by
  obtain ⟨_, oi, hoi, hall⟩ := mem_ready.1 hi
  refine ⟨by simp [cl.size], fun j oj hj hl e he hb => ?_⟩
  by_cases hij : i = j
  · subst hij
    have : oj = oi := Option.some.inj (hj.symm.trans hoi)
    subst this
    exact getD_set_true (hall e he hb)
  · rw [getD_set_ne false hij] at hl
    exact getD_set_true (cl.closed j oj hj hl e he hb)

/-- 'W' says no more than that one waits, by a chain of edges, for another. -/
def WOK (ops : Array Oper) (W : Nat → Nat → Bool) : Prop :=
  ∀ j i, W j i = true → ∃ oj, ops[j]? = some oj ∧ ∃ e ∈ oj.after, Region.binds .any e = true ∧ e.on < j ∧ (e.on = i ∨ W e.on i = true)

theorem WOK.listed (hW : WOK ops W) {L : Array Bool} (cl : Cl ops L) : ∀ (j i : Nat), (∀ oj, ops[j]? = some oj → ∀ e ∈ oj.after, Region.binds .any e = true → L.getD e.on false = true) → W j i = true → L.getD i false = true := by
  intro j
  induction j using Nat.strongRecOn with
  | _ j ih =>
    intro i hj hw
    obtain ⟨oj, hoj, e, he, hb, hlt, hor⟩ := hW j i hw
    have hl := hj oj hoj e he hb
    rcases hor with rfl | hw'
    · exact hl
    · exact ih e.on hlt i (fun oe hoe e' he' hb' => cl.closed e.on oe hoe hl e' he' hb') hw'

theorem WOK.ready (hW : WOK ops W) {L : Array Bool} (cl : Cl ops L) {i j : Nat} (hj : j ∈ Region.ready .any ops L) (hi : L.getD i true = false) : W j i = false := by
  cases hw : W j i with
  | false => rfl
  | true =>
    obtain ⟨_, oj, hoj, hall⟩ := mem_ready.1 hj
    have := hW.listed cl j i (fun oj' hoj' e he hb => by rw [hoj] at hoj'; cases hoj'; exact hall e he hb) hw
    rw [getD_both' hi] at this
    cases this

theorem put_eq {d : Option Nat} {x y : FV} (he : F.put d x = F.put d y) (hl : F.tmps.length = G.tmps.length) : G.put d x = G.put d y := by
  cases d with
  | none => rfl
  | some d =>
    by_cases hd : d < F.tmps.length
    · have h1 : (F.put (some d) x).get d = x := by show (F.set d x).get d = x; rw [get_set]; simp [hd]
      have h2 : (F.put (some d) y).get d = y := by show (F.set d y).get d = y; rw [get_set]; simp [hd]
      rw [he, h2] at h1
      rw [h1]
    · simp only [Fr.put, Fr.set, List.set_eq_of_length_le (by omega : G.tmps.length ≤ d)]

theorem get_put_val {d : Nat} {x : FV} (hl : F.tmps.length = G.tmps.length) (hold : F.get d = G.get d) : (F.put (some d) x).get d = (G.put (some d) x).get d := by
  show (F.set d x).get d = (G.set d x).get d
  rw [get_set, get_set, hl, hold]

theorem len_put {d : Option Nat} {x : FV} : (F.put d x).tmps.length = F.tmps.length := by
  cases d <;> simp [Fr.put, Fr.set]
theorem len_upd {vu : Option (Nat × List V)} : (F.upd vu).tmps.length = F.tmps.length := by
  cases vu <;> rfl
theorem get_upd {vu : Option (Nat × List V)} {t : Nat} : (F.upd vu).get t = F.get t := by
  cases vu <;> rfl

/-- No later write touches what a pending load looks at. -/
def Pend.Free (ops : Array Oper) (p : Pend) (d : Option Nat) : Prop :=
  match p with
  | .look _ o _ => lookOp o = true ∧ ∀ t, d = some t → t ∉ o.looksAt ops
  | .var _ _ => True

theorem look_under {oi : Oper} {v u : FV} (hl : lookOp o = true) (hne : ∀ t, oi.dst = some t → t ∉ o.looksAt ops) (hk : stepK E C f ops.toList o (F.put oi.dst v) h one = some ((F.put oi.dst v).put o.dst u, h)) :
    stepK E C f ops.toList o F h one = some (F.put o.dst u, h) := by
  obtain ⟨x, hx, hall⟩ := slook_loc hl (agree_put (F := F) hne) (fun y _ e _ => by cases oi.dst <;> rfl) hk
  have he : (F.put oi.dst v).put o.dst x = (F.put oi.dst v).put o.dst u := by injection hx with hx; exact (Prod.mk.inj hx).1
  rw [hall one, put_eq he (G := F) len_put]

theorem chk_under {oi oj : Oper} {v : FV} {p : Pend} (hap : oi.apart ops oj = true) (hp : p.Free ops oi.dst) (hc : Chk E C f ops p oj (F.put oi.dst v) h) : Chk E C f ops p oj F h := by
  obtain ⟨h1, h2, h3⟩ := Oper.apart_spec hap
  cases p with
  | look i o u => exact look_under hp.1 hp.2 hc
  | var i d =>
    intro t ht
    have := hc t ht
    rwa [get_put_ne fun e => h2 t e ht] at this

/-- A load, or an operation on slots, may be taken first. -/
theorem anyT_val {i : Nat} {oi : Oper} {v : FV} {T' : List Pend} (hW : WOK ops W) (hi : ops[i]? = some oi) (hA : A i = false)
    (hkind : (pureOp oi = true ∧ T' = T) ∨ (lookOp oi = true ∧ (∀ t, oi.dst = some t → t ∉ oi.looksAt ops) ∧ T' = .look i oi v :: T)) :
    ∀ (n : Nat) (L : Array Bool) (F : Fr) (h : Hp), Cl ops L →
      (∀ j oj, ops[j]? = some oj → j ≠ i → L.getD j true = false → (∀ e ∈ oj.after, Region.binds .any e = true → e.on ≠ i) → oi.apart ops oj = true) →
      i ∈ Region.ready .any ops L → stepK E C f ops.toList oi F h one = some (F.put oi.dst v, h) → (∀ d, oi.dst = some d → isSelf (F.get d) = false) →
      (∀ p ∈ T, p.Free ops oi.dst) → (∀ p ∈ T, Asked A W p L i → Chk E C f ops p oi (F.put oi.dst v) h) →
      AnyT E C f ops A W T' Fin n (L.setIfInBounds i true) (F.put oi.dst v) h → AnyT E C f ops A W T Fin (n + 1) L F h := by
  have hsub : ∀ p ∈ T, p ∈ T' := by
    rcases hkind with ⟨_, rfl⟩ | ⟨_, _, rfl⟩
    · exact fun p h => h
    · exact fun p h => List.mem_cons_of_mem _ h
  intro n
  induction n with
  | zero =>
    intro L F h cl _ hr hstep hold hfr hTi H
    refine ⟨fun h => (by rw [h] at hr; cases hr), fun j hj => ?_⟩
    by_cases hji : j = i
    · subst hji; exact ⟨oi, _, _, hi, hstep, hTi, H.1, H.2⟩
    · have := ready_mono hj hji
      rw [H.1] at this
      cases this
  | succ n ih =>
    intro L F h cl hfree hr hstep hold hfr hTi H
    refine ⟨fun h => (by rw [h] at hr; cases hr), fun j hj => ?_⟩
    by_cases hji : j = i
    · subst hji; exact ⟨oi, _, _, hi, hstep, hTi, AnyT.mono hsub _ _ _ _ H⟩
    · obtain ⟨oj, F', h', hoj, hk, hchk, H'⟩ := H.2 j (ready_mono hj hji)
      obtain ⟨hjun, oj', hoj', hall⟩ := mem_ready.1 hj
      rw [hoj] at hoj'
      cases hoj'
      have hiun := (mem_ready.1 hr).1
      have hnot : ∀ e ∈ oj.after, Region.binds .any e = true → e.on ≠ i := fun e he hb heq => by
        have h1 := hall e he hb
        rw [heq, getD_both' hiun] at h1
        cases h1
      have hap := hfree j oj hoj hji hjun hnot
      obtain ⟨h1, h2, h3⟩ := Oper.apart_spec hap
      obtain ⟨F1, hk1, rfl, hold1, vu, x, hF1⟩ := step_under hap hold hk
      have hlen : F1.tmps.length = F.tmps.length := by rw [hF1, len_put, len_upd]
      have hAsk : ∀ p, Asked A W p L j → Asked A W p (L.setIfInBounds i true) j := by
        intro p hp
        cases p with
        | var m d => exact hp
        | look m o u =>
          refine ⟨hp.1, fun l hl ha => ?_⟩
          by_cases hli : i = l
          · subst hli; rw [hA] at ha; cases ha
          · rw [getD_set_ne false hli] at hl; exact hp.2 l hl ha
      have hWji : W j i = false := hW.ready cl hj hiun
      refine ⟨oj, F1, h', hoj, hk1, fun p hp hask => chk_under hap (hfr p hp) (hchk p (hsub p hp) (hAsk p hask)), ?_⟩
      have hstep1 : stepK E C f ops.toList oi F1 h' one = some (F1.put oi.dst v, h') := by
        rcases hkind with ⟨hpure, rfl⟩ | ⟨hlook, hself, rfl⟩
        · have hag : AgreeE F F1 ops.toList oi := by
            rw [hF1]
            have := (agree_put (F := F.upd vu) (o := oi) (ops := ops) (d := oj.dst) (x := x) h3).symm
            exact ⟨fun y hy => (by rw [← this.1 y hy]; cases y <;> first | exact get_upd.symm | rfl), by rw [← this.2]; exact wants_congr fun _ _ _ _ _ => get_upd.symm⟩
          obtain ⟨y, hy, hally⟩ := spure_loc hpure hag hstep
          have he : F.put oi.dst y = F.put oi.dst v := by injection hy with hy; exact (Prod.mk.inj hy).1
          rw [hally h' one, put_eq he hlen.symm]
        · have hc := hchk (.look i oi v) (by simp) ⟨fun _ => hWji, fun l hl ha => by
            by_cases hli : i = l
            · subst hli; rw [hA] at ha; cases ha
            · rw [getD_set_ne false hli] at hl
              cases hw : W l i with
              | false => rfl
              | true =>
                have hol : ∃ ol, ops[l]? = some ol := by
                  have : l < ops.size := by
                    rw [← cl.size]
                    rcases Nat.lt_or_ge l L.size with h' | h'
                    · exact h'
                    · simp [Array.getElem?_eq_none h'] at hl
                  exact ⟨_, Array.getElem?_eq_getElem this⟩
                have := hW.listed cl l i (fun ol hol e he hb => cl.closed l ol hol hl e he hb) hw
                rw [getD_both' hiun] at this
                cases this⟩
          exact look_under hlook hself hc
      have hfree' : ∀ k ok, ops[k]? = some ok → k ≠ i → (L.setIfInBounds j true).getD k true = false →
          (∀ e ∈ ok.after, Region.binds .any e = true → e.on ≠ i) → oi.apart ops ok = true := fun k ok hk hki hun hno => by
        refine hfree k ok hk hki ?_ hno
        by_cases hjk : j = k
        · subst hjk; exact hjun
        · rw [getD_set_ne true hjk] at hun; exact hun
      refine ih (L.setIfInBounds j true) F1 h' (cl.set hj) hfree' (ready_mono hr (Ne.symm hji)) hstep1 (fun d hd => by rw [hold1 d hd]; exact hold d hd) hfr (fun p hp hask => ?_) ?_
      · cases p with
        | var m d =>
          intro t ht
          have := hTi (.var m d) hp hask t ht
          rw [ht] at this ⊢
          rwa [get_put_val hlen (hold1 t ht)]
        | look m o u =>
          have hl : (L.setIfInBounds j true).getD j false = true := by
            have hjs : j < L.size := by rw [cl.size]; exact (Array.getElem?_eq_some_iff.1 hoj).1
            simp [hjs]
          refine hchk (.look m o u) (hsub _ hp) (hAsk _ ⟨fun ha => hask.2 j hl ha, fun l hl ha => hask.2 l (getD_set_true hl) ha⟩)
      · rw [Array.setIfInBounds_comm _ _ hji]
        exact H'
end
end Go.Ev
