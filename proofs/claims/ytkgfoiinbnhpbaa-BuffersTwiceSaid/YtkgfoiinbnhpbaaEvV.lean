/- A region whose order is drawn: new variables first; the others alone; what the machine does. -/
import Derived.Test.YtkgfoiinbnhpbaaEvU
namespace Go.Ev
open Go Go.RowKit
section
variable {E : Env} {C : AFun} {f : Nat} {ops : Array Oper} {A : Nat → Bool} {W : Nat → Nat → Bool} {T : List Pend} {Fin : Fr → Hp → Prop} {F G : Fr} {h : Hp} {o : Oper}

theorem get_no {d : Nat} (hno : anySelf d F.tmps = false) (t : Nat) : hasSelf d (F.get t) = false := by
  unfold Fr.get
  rw [List.getD_eq_getElem?_getD]
  cases ht : F.tmps[t]? with
  | none => rfl
  | some y => exact anySelf_spec hno y (List.mem_of_getElem? ht)
theorem no_put {d : Nat} {o : Option Nat} {x : FV} (hno : anySelf d F.tmps = false) (hx : ∀ t, o = some t → hasSelf d ((F.put o x).get t) = false) : anySelf d (F.put o x).tmps = false := by
  refine anySelf_of fun y hy => ?_
  cases o with
  | none => exact anySelf_spec hno y hy
  | some t =>
    simp only [Fr.put, Fr.set] at hy
    obtain ⟨i, hi⟩ := List.getElem?_of_mem hy
    rw [List.getElem?_set] at hi
    split at hi
    · rename_i e
      subst e
      split at hi
      · rename_i hl
        cases hi
        have := hx t rfl
        have hg : (F.put (some t) x).get t = x := by show (F.set t x).get t = x; rw [get_set]; simp [hl]
        rwa [hg] at this
      · cases hi
    · exact anySelf_spec hno y (List.mem_of_getElem? hi)

/-- A new variable may be made first. -/
theorem anyT_own {i d : Nat} {oi : Oper} {cs : List V} {z : FV} (hW : WOK ops W) (hi : ops[i]? = some oi) (hd : oi.dst = some d) (hT : ∀ p ∈ T, ∃ m e, p = .var m e)
    (hown : ∀ {G : Fr} {h' : Hp}, AgreeE F G ops.toList oi → anySelf d (G.tmps.set d .bot) = false → stepK E C f ops.toList oi G h' one = some ((G.setVar d cs).set d z, h')) :
    ∀ (n : Nat) (L : Array Bool) (G : Fr) (h : Hp), AgreeE F G ops.toList oi → Cl ops L →
      (∀ j oj, ops[j]? = some oj → j ≠ i → L.getD j true = false → (∀ e ∈ oj.after, Region.binds .any e = true → e.on ≠ i) → oi.apart ops oj = true) →
      i ∈ Region.ready .any ops L → anySelf d G.tmps = false → isSelf (G.get d) = false →
      (∀ p ∈ T, Asked A W p L i → Chk E C f ops p oi ((G.setVar d cs).set d z) h) →
      AnyT E C f ops A W (.var i d :: T) Fin n (L.setIfInBounds i true) ((G.setVar d cs).set d z) h → AnyT E C f ops A W T Fin (n + 1) L G h := by
  have hbot : ∀ {G : Fr}, anySelf d G.tmps = false → anySelf d (G.tmps.set d .bot) = false := fun {G} hno => by
    have := no_put (o := some d) (x := .bot) hno (fun t ht => by
      cases ht
      show hasSelf d ((G.set d .bot).get d) = false
      rw [get_set]
      split
      · rfl
      · exact get_no hno d)
    exact this
  intro n
  induction n with
  | zero =>
    intro L G h hag cl _ hr hno hold hTi H
    refine ⟨fun h => (by rw [h] at hr; cases hr), fun j hj => ?_⟩
    by_cases hji : j = i
    · subst hji; exact ⟨oi, _, _, hi, hown hag (hbot hno), hTi, H.1, H.2⟩
    · have := ready_mono hj hji
      rw [H.1] at this
      cases this
  | succ n ih =>
    intro L G h hag cl hfree hr hno hold hTi H
    refine ⟨fun h => (by rw [h] at hr; cases hr), fun j hj => ?_⟩
    by_cases hji : j = i
    · subst hji; exact ⟨oi, _, _, hi, hown hag (hbot hno), hTi, AnyT.mono (fun p hp => List.mem_cons_of_mem _ hp) _ _ _ _ H⟩
    · obtain ⟨oj, F', h', hoj, hk, hchk, H'⟩ := H.2 j (ready_mono hj hji)
      obtain ⟨hjun, oj', hoj', hall⟩ := mem_ready.1 hj
      rw [hoj] at hoj'
      cases hoj'
      have hiun := (mem_ready.1 hr).1
      have hnot : ∀ e ∈ oj.after, Region.binds .any e = true → e.on ≠ i := fun e he hb heq => by
        have h1 := hall e he hb
        rw [heq, getD_both' hiun] at h1
        cases h1
      have hap := hfree j oj hoj hji hjun hnot
      obtain ⟨h1, h2, h3⟩ := Oper.apart_spec hap
      obtain ⟨F1, hk1, rfl, hold1, vu, x, hF1⟩ := step_under_own hap hd hno hold hk
      have hlen : F1.tmps.length = G.tmps.length := by rw [hF1, len_put, len_upd]
      have hWji : W j i = false := hW.ready cl hj hiun
      have hslot : ∀ t, oj.dst = some t → ((F1.setVar d cs).set d z).get t = F1.get t := fun t ht =>
        get_put_ne (F := F1.setVar d cs) (d := some d) (fun e => h2 d hd (by rw [ht, e]))
      refine ⟨oj, F1, h', hoj, hk1, fun p hp hask => ?_, ?_⟩
      · obtain ⟨m, e, rfl⟩ := hT p hp
        intro t ht
        have := hchk (.var m e) (List.mem_cons_of_mem _ hp) hask t ht
        rwa [hslot t ht] at this
      have hno1 : anySelf d F1.tmps = false := by
        rw [hF1]
        refine no_put (F := G.upd vu) (by cases vu <;> exact hno) fun t ht => ?_
        rw [← hF1]
        have := hchk (.var i d) (by simp) hWji t ht
        rwa [hslot t ht] at this
      have hag1 : AgreeE F F1 ops.toList oi := by
        refine ⟨fun y hy => ?_, ?_⟩
        · rw [hag.1 y hy, hF1, (agree_put (F := G.upd vu) (o := oi) (ops := ops) (d := oj.dst) (x := x) h3).1 y hy]
          cases y <;> first | exact get_upd.symm | rfl
        · rw [hag.2, hF1, (agree_put (F := G.upd vu) (o := oi) (ops := ops) (d := oj.dst) (x := x) h3).2]
          exact wants_congr fun _ _ _ _ _ => get_upd.symm
      have hfree' : ∀ k ok, ops[k]? = some ok → k ≠ i → (L.setIfInBounds j true).getD k true = false →
          (∀ e ∈ ok.after, Region.binds .any e = true → e.on ≠ i) → oi.apart ops ok = true := fun k ok hk hki hun hno => by
        refine hfree k ok hk hki ?_ hno
        by_cases hjk : j = k
        · subst hjk; exact hjun
        · rw [getD_set_ne true hjk] at hun; exact hun
      refine ih (L.setIfInBounds j true) F1 h' hag1 (cl.set hj) hfree' (ready_mono hr (Ne.symm hji)) hno1 (by rw [hold1]; exact hold) (fun p hp hask => ?_) ?_
      · obtain ⟨m, e, rfl⟩ := hT p hp
        intro t ht
        have := hTi (.var m e) hp hask t ht
        rw [hd] at ht
        cases ht
        have hg := get_put_val (F := F1.setVar d cs) (G := G.setVar d cs) (d := d) (x := z) hlen hold1
        have hg' : ((F1.setVar d cs).set d z).get d = ((G.setVar d cs).set d z).get d := hg
        rw [hg']
        exact this
      · rw [Array.setIfInBounds_comm _ _ hji]
        exact H'

/-- A load's yield that is asked for no more. -/
theorem AnyT.drop {T T' : List Pend} : ∀ (n : Nat) (L : Array Bool) (F : Fr) (h : Hp),
    (∀ p ∈ T, p ∈ T' ∨ ∃ l i o v, p = .look i o v ∧ L.getD l false = true ∧ A l = true ∧ W l i = true) → AnyT E C f ops A W T' Fin n L F h → AnyT E C f ops A W T Fin n L F h
  | 0, _, _, _, _, H => H
  | n + 1, L, _, _, hT, H => ⟨H.1, fun j hj => by
    obtain ⟨oj, F', h', hoj, hk, hchk, H'⟩ := H.2 j hj
    refine ⟨oj, F', h', hoj, hk, fun p hp hask => ?_, AnyT.drop n _ _ _ (fun p hp => ?_) H'⟩
    · rcases hT p hp with h1 | ⟨l, i, o, v, rfl, hl, hA, hw⟩
      · exact hchk p h1 hask
      · have := hask.2 l hl hA
        rw [hw] at this
        cases this
    · rcases hT p hp with h1 | ⟨l, i, o, v, rfl, hl, hA, hw⟩
      · exact .inl h1
      · exact .inr ⟨l, i, o, v, rfl, getD_set_true hl, hA, hw⟩⟩

/-- An operation that comes alone. -/
theorem anyT_act {e n : Nat} {oe : Oper} {L : Array Bool} {F' : Fr} {h' : Hp} (hr : Region.ready .any ops L = [e]) (he : ops[e]? = some oe) (hs : stepK E C f ops.toList oe F h one = some (F', h'))
    (hc : ∀ p ∈ T, Asked A W p L e → Chk E C f ops p oe F' h') (H : AnyT E C f ops A W T Fin n (L.setIfInBounds e true) F' h') : AnyT E C f ops A W T Fin (n + 1) L F h := by
  refine ⟨fun h => (by rw [h] at hr; cases hr), fun j hj => ?_⟩
  rw [hr] at hj
  have : j = e := by simpa using hj
  subst this
  exact ⟨oe, F', h', he, hs, hc, H⟩

section
variable {base : Nat} {w0 we w : World} {μe μ : Mu} {β : Bt} {a : Act} {Q : Exit → Act → World → Prop}

theorem wants_rel (hf : FR we.heap.size μ β F a w) {b : Bool} (hw : wants ops.toList o.guard F = some b) : Region.wanted o (yielded ops a.tmps) = b := by
  unfold wants at hw
  unfold Region.wanted
  cases hgu : o.guard with
  | none => rw [hgu] at hw; cases hw; rfl
  | some p =>
    obtain ⟨j, want⟩ := p
    rw [hgu] at hw
    simp only [Array.getElem?_toList] at hw
    split at hw
    · rename_i oj hoj
      split at hw
      · rename_i d hd
        have hsl := hf.slots d
        have hy : ∀ u, a.tmps.getD d undef = u → yielded ops a.tmps j = match u with | .bool b => some b | _ => none := by
          intro u hu
          unfold yielded
          simp only [hoj, hd, Option.bind_some]
          rw [Array.getD_eq_getD_getElem?] at hu
          cases ht : a.tmps[d]? with
          | none => rw [ht] at hu; subst hu; rfl
          | some v => rw [ht] at hu; simp at hu; subst hu; cases v <;> rfl
        split at hw
        · rename_i b' hg
          rw [hg] at hsl
          simp only [FVR, VR] at hsl
          have := hy _ hsl
          simp only at this ⊢
          rw [this]
          cases hw
          cases b' <;> cases want <;> rfl
        · rename_i hg
          rw [hg] at hsl
          simp only [FVR, VR] at hsl
          obtain ⟨cs, hc, hcs⟩ := hsl
          have := hy _ hc
          simp only at this ⊢
          rw [this]
          cases hw
          cases want <;> rfl
        · cases hw
      · cases hw
    · cases hw

theorem undef_rel : FVR μ β (.v (.tup [])) undef := ⟨#[], rfl, VRs.nil⟩

/-- One step of the machine. -/
theorem step_wp (hN : NoCount E.P) (hC : CalleeOK E.P base w0 C) (st : ST base w0 μe we μ β F h a w) {ρ : Type} {k : Fr → Hp → Option ρ} {r : ρ} (hk : stepK E C f ops.toList o F h k = some r) {K : Act → World → Prop}
    (hK : ∀ μ' β' F' h' a' w', ST base w0 μe we μ' β' F' h' a' w' → k F' h' = some r → K a' w') :
    if Region.wanted o (yielded ops a.tmps) then o.wp E.P a w K Q else K (a.put o.dst undef) w := by
  rcases stepK_some hk with ⟨hw, hk⟩ | ⟨hw, hk⟩
  · have : Region.wanted o (yielded ops a.tmps) = true := wants_rel (ops := ops) st.fr hw
    rw [if_pos this]
    exact opK_some hN hC st hk hK
  · have : Region.wanted o (yielded ops a.tmps) = false := wants_rel (ops := ops) st.fr hw
    rw [if_neg (by rw [this]; simp)]
    exact hK _ _ _ _ _ _ (st.put o.dst undef_rel) hk

theorem any_wp (hN : NoCount E.P) (hC : CalleeOK E.P base w0 C) (hQ : ∀ μ β F h a w, ST base w0 μe we μ β F h a w → Fin F h → Q .normal a w) :
    ∀ (n : Nat) (L : Array Bool) (μ : Mu) (β : Bt) (F : Fr) (h : Hp) (a : Act) (w : World), ST base w0 μe we μ β F h a w → AnyT E C f ops A W T Fin n L F h → wpAny E.P .any ops Q n L a w
  | 0, _, _, _, _, _, _, _, st, H => ⟨H.1, hQ _ _ _ _ _ _ st H.2⟩
  | n + 1, L, _, _, _, _, _, _, st, H => ⟨fun h0 => hQ _ _ _ _ _ _ st (H.1 h0), fun j hj => by
    obtain ⟨oj, F', h', hoj, hk, _, H'⟩ := H.2 j hj
    unfold wpOp
    simp only [hoj]
    have := step_wp (ops := ops) (Q := Q) (K := wpAny E.P .any ops Q n (L.setIfInBounds j true)) hN hC st hk (fun μ' β' F'' h'' a' w' st' he => by
      cases he
      exact any_wp hN hC hQ n _ _ _ _ _ _ _ st' H')
    split
    · rename_i hw; rw [if_pos hw] at this; exact .inl this
    · rename_i hw; rw [if_neg hw] at this; exact this⟩
end
end
end Go.Ev
