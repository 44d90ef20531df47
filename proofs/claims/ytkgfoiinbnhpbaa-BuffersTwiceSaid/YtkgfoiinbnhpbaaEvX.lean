/- A region whose order is drawn: the walk that the evaluator takes speaks for all. -/
import Derived.Test.YtkgfoiinbnhpbaaEvW
namespace Go.Ev
open Go Go.RowKit
section
variable {E : Env} {C : AFun} {f : Nat} {ops : Array Oper} {A : Nat → Bool} {W : Nat → Nat → Bool} {F G : Fr} {h : Hp} {o : Oper} {ρ : Type} {r : ρ}

theorem stepK_one {all : List Oper} {k : Fr → Hp → Option ρ} (hk : stepK E C f all o F h k = some r) : ∃ F' h', k F' h' = some r ∧ stepK E C f all o F h one = some (F', h') := by
  by_cases hn : ownOp E f o = true
  · rcases sown_loc hn hk with ⟨d, x, cs, _, _, hs, hk, hall⟩ | ⟨hk, hall⟩
    · exact ⟨_, _, hk, hall F h one ⟨fun _ _ => rfl, rfl⟩ hs⟩
    · exact ⟨_, _, hk, hall F h one ⟨fun _ _ => rfl, rfl⟩⟩
  · obtain ⟨vu, x, h', hk, _, hall⟩ := sop_loc (G := F) (by simpa using hn) ⟨fun _ _ => rfl, rfl⟩ (fun _ _ _ _ => rfl) hk
    exact ⟨_, _, hk, hall one⟩

theorem look_over {d : Option Nat} {v u : FV} (hl : lookOp o = true) (hne : ∀ t, d = some t → t ∉ o.looksAt ops) (hk : stepK E C f ops.toList o F h one = some (F.put o.dst u, h)) :
    stepK E C f ops.toList o (F.put d v) h one = some ((F.put d v).put o.dst u, h) := by
  obtain ⟨x, hx, hall⟩ := slook_loc hl (agree_put (F := F) (x := v) hne).symm (fun y _ e _ => by cases d <;> rfl) hk
  have he : F.put o.dst x = F.put o.dst u := by injection hx with hx; exact (Prod.mk.inj hx).1
  rw [hall one, put_eq he (G := F.put d v) len_put.symm]

theorem put_getO {d : Option Nat} {x : FV} : F.put d x = F.put d ((F.put d x).getO d) := by
  cases d with
  | none => rfl
  | some d =>
    by_cases hd : d < F.tmps.length
    · have : (F.put (some d) x).getO (some d) = x := by show (F.set d x).get d = x; rw [get_set]; simp [hd]
      rw [this]
    · simp only [Fr.put, Fr.set, List.set_eq_of_length_le (by omega : F.tmps.length ≤ d)]

theorem freesB_spec {m : Nat} {d : Option Nat} {om : Oper} (h : freesB ops m d = true) (hm : ops[m]? = some om) : ∀ t, d = some t → t ∉ om.looksAt ops := by
  rintro t rfl
  simp only [freesB, hm] at h
  simpa using h

theorem varsOK_spec {x : FV} : ∀ {l : List Nat}, varsOK x l = true → ∀ d ∈ l, hasSelf d x = false
  | [], _, d, hd => by cases hd
  | e :: l, h, d, hd => by
    simp only [varsOK] at h
    split at h
    · cases h
    · rename_i he
      rcases List.mem_cons.1 hd with rfl | hd
      · exact he
      · exact varsOK_spec h d hd

theorem findLook_mem {i : Nat} {p : Oper × FV} : ∀ {T : Looks}, findLook i T = some p → (i, p) ∈ T
  | [], h => by cases h
  | (j, q) :: l, h => by
    simp only [findLook] at h
    split at h
    · rename_i hd
      cases h
      have := of_decide_eq_true hd
      subst this
      simp
    · exact List.mem_cons_of_mem _ (findLook_mem h)

/-- What holds along the evaluator's walk. -/
structure DInv (E : Env) (C : AFun) (f : Nat) (ops : Array Oper) (T : Looks) (lk : List Nat) (vs : List (Nat × Nat)) (Pn : List Pend) (L : Array Bool) (F : Fr) (h : Hp) : Prop where
  cl : Cl ops L
  looks : ∀ i o v, Pend.look i o v ∈ Pn → findLook i T = some (o, v)
  vars : ∀ i d, Pend.var i d ∈ Pn → (i, d) ∈ vs
  live : ∀ x ∈ T, x.1 ∈ lk ∧ ops[x.1]? = some x.2.1 ∧ lookOp x.2.1 = true ∧ stepK E C f ops.toList x.2.1 F h one = some (F.put x.2.1.dst x.2.2, h)
  listed : ∀ i ∈ lk, L.getD i false = true

theorem relookK_spec {T : Looks} {F : Fr} {h : Hp} : ∀ {l : List Nat} {k : Looks → Option ρ}, relookK E C f ops.toList T l F h k = some r → (∀ x ∈ T, lookOp x.2.1 = true) →
    ∃ T2, k T2 = some r ∧ (∀ x ∈ T2, x.1 ∈ l ∧ x ∈ T ∧ stepK E C f ops.toList x.2.1 F h one = some (F.put x.2.1.dst x.2.2, h)) ∧ (∀ i ∈ l, ∀ p, findLook i T = some p → findLook i T2 = some p) ∧ ∀ i ∈ l, ∃ p, (i, p) ∈ T
  | [], k, hk, _ => ⟨[], hk, by simp, by simp, by simp⟩
  | i :: l, k, hk, hT => by
    simp only [relookK] at hk
    split at hk
    · rename_i p hp
      have hmem := findLook_mem hp
      obtain ⟨x, hk, hall⟩ := slook_loc (G := F) (hT _ hmem) ⟨fun _ _ => rfl, rfl⟩ (fun _ _ _ _ => rfl) hk
      split at hk
      · rename_i hs
        have hs := FV.same_eq hs
        obtain ⟨T2, hk, h1, h2, h3⟩ := relookK_spec hk hT
        refine ⟨(i, p) :: T2, hk, fun y hy => ?_, fun j hj q hq => ?_, fun j hj => ?_⟩
        · rcases List.mem_cons.1 hy with rfl | hy
          · refine ⟨by simp, hmem, ?_⟩
            show stepK E C f ops.toList p.1 F h one = some (F.put p.1.dst p.2, h)
            rw [hall one, ← hs, ← put_getO]
          · exact ⟨by simp [(h1 y hy).1], (h1 y hy).2⟩
        · simp only [findLook]
          split
          · rename_i hd
            have := of_decide_eq_true hd
            subst this
            rw [hp] at hq
            exact hq
          · rename_i hd
            rcases List.mem_cons.1 hj with rfl | hj
            · simp at hd
            · exact h2 j hj q hq
        · rcases List.mem_cons.1 hj with rfl | hj
          · exact ⟨p, hmem⟩
          · exact h3 j hj
      · cases hk
    · cases hk

theorem oldOK_spec {d : Option Nat} (h : oldOK F d = true) : ∀ t, d = some t → isSelf (F.get t) = false := by
  rintro t rfl
  simpa [oldOK] using h

theorem DInv.put {T : Looks} {lk : List Nat} {vs : List (Nat × Nat)} {Pn : List Pend} {L : Array Bool} {i : Nat} {d : Option Nat} {x : FV} (inv : DInv E C f ops T lk vs Pn L F h) (hi : i ∈ Region.ready .any ops L)
    (hf : ∀ m ∈ lk, freesB ops m d = true) : DInv E C f ops T lk vs Pn (L.setIfInBounds i true) (F.put d x) h :=
  ⟨inv.cl.set hi, inv.looks, inv.vars, fun y hy => by
    obtain ⟨h1, h2, h3, h4⟩ := inv.live y hy
    exact ⟨h1, h2, h3, look_over h3 (freesB_spec (hf _ h1) h2) h4⟩, fun m hm => getD_set_true (inv.listed m hm)⟩

theorem DInv.chk {T : Looks} {lk : List Nat} {vs : List (Nat × Nat)} {Pn : List Pend} {L : Array Bool} {i : Nat} {x : FV} {vars : List Nat} (inv : DInv E C f ops T lk vs Pn L F h)
    (hf : ∀ m ∈ lk, freesB ops m o.dst = true) (hv : ∀ v ∈ vs, W i v.1 = true ∨ v.2 ∈ vars) (hok : varsOK ((F.put o.dst x).getO o.dst) vars = true) :
    ∀ p ∈ Pn, Asked A W p L i → Chk E C f ops p o (F.put o.dst x) h := by
  intro p hp hask
  cases p with
  | look m om u =>
    obtain ⟨h1, h2, h3, h4⟩ := inv.live _ (findLook_mem (inv.looks m om u hp))
    exact look_over h3 (freesB_spec (hf _ h1) h2) h4
  | var m e =>
    intro t ht
    rcases hv _ (inv.vars m e hp) with hw | hm
    · have : W i m = false := hask
      rw [hw] at this
      cases this
    · have := varsOK_spec hok e hm
      rw [ht] at this
      rw [ht]
      exact this

theorem forceFV_eq {ρ : Type} (x : FV) (k : FV → Option ρ) : forceFV x k = k x := by cases x <;> rfl
theorem forceL_eq {ρ : Type} : ∀ (l : List FV) (k : List FV → Option ρ), forceL l k = k l
  | [], _ => rfl
  | x :: l, k => by simp only [forceL]; rw [forceFV_eq, forceL_eq l]
theorem forceF_eq {ρ : Type} (F : Fr) (k : Fr → Option ρ) : forceF F k = k F := by unfold forceF; rw [forceL_eq]

theorem drawK_any {k : Fr → Hp → Option ρ} (hW : WOK ops W) : ∀ (s : List Ent) (T : Looks) (lk : List Nat) (vs : List (Nat × Nat)) (Pn : List Pend) (L : Array Bool) (F : Fr) (h : Hp),
    schedGo E f ops A W s L lk vs = true → DInv E C f ops T lk vs Pn L F h → drawK E C f ops.toList s T F h k = some r → AnyT E C f ops A W Pn (fun F h => k F h = some r) s.length L F h
  | [], T, lk, vs, Pn, L, F, h, hB, inv, hk => ⟨by simpa [schedGo] using hB, hk⟩
  | e :: s, T, lk, vs, Pn, L, F, h, hB, inv, hk => by
    simp only [schedGo] at hB
    simp only [drawK, Array.getElem?_toList] at hk
    rw [forceF_eq] at hk
    split at hB
    · cases hB
    · rename_i o ho
      simp only [ho] at hk
      simp only [Bool.and_eq_true] at hB
      obtain ⟨hvs, hB⟩ := hB
      have hvs' : ∀ v ∈ vs, W e.i v.1 = true ∨ v.2 ∈ e.vars := fun v hv => by
        have := List.all_eq_true.1 hvs v hv
        simpa using this
      split at hB
      · -- val
        rename_i hkind
        simp only [hkind] at hk
        simp only [Bool.and_eq_true, Bool.not_eq_true'] at hB
        obtain ⟨⟨⟨⟨⟨hA, hp⟩, hr⟩, hf⟩, hfr⟩, hB⟩ := hB
        have hr' : e.i ∈ Region.ready .any ops L := by simpa using hr
        have hfr' : ∀ m ∈ lk, freesB ops m o.dst = true := fun m hm => List.all_eq_true.1 hfr m hm
        split at hk
        · rename_i hold
          obtain ⟨x, hk, hall⟩ := spure_loc (G := F) hp ⟨fun _ _ => rfl, rfl⟩ hk
          split at hk
          · rename_i hok
            refine anyT_val (v := x) hW ho hA (.inl ⟨hp, rfl⟩) s.length L F h inv.cl (Region.free_spec ho hf) hr' (hall h one) (oldOK_spec hold) (fun p hp => ?_) (inv.chk hfr' hvs' hok) ?_
            · cases p with
              | look m om u =>
                obtain ⟨h1, h2, h3, h4⟩ := inv.live _ (findLook_mem (inv.looks m om u hp))
                exact ⟨h3, freesB_spec (hfr' _ h1) h2⟩
              | var m d => trivial
            · exact drawK_any hW s T lk vs Pn _ _ _ hB (inv.put hr' hfr') hk
          · cases hk
        · cases hk
      · -- look
        rename_i hkind
        simp only [hkind] at hk
        simp only [Bool.and_eq_true, Bool.not_eq_true'] at hB
        obtain ⟨⟨⟨⟨⟨⟨hA, hl⟩, hr⟩, hf⟩, hfr⟩, hself⟩, hB⟩ := hB
        have hr' : e.i ∈ Region.ready .any ops L := by simpa using hr
        have hfr' : ∀ m ∈ lk, freesB ops m o.dst = true := fun m hm => List.all_eq_true.1 hfr m hm
        split at hk
        · rename_i hold
          obtain ⟨x, hk, hall⟩ := slook_loc (G := F) hl ⟨fun _ _ => rfl, rfl⟩ (fun _ _ _ _ => rfl) hk
          split at hk
          · rename_i hok
            have hstep := hall one
            rw [show one (F.put o.dst x) h = some (F.put o.dst x, h) from rfl] at hstep
            rw [put_getO (F := F) (d := o.dst) (x := x)] at hstep hok hk
            generalize (F.put o.dst x).getO o.dst = v at hstep hok hk
            have hself' : ∀ t, o.dst = some t → t ∉ o.looksAt ops := freesB_spec hself ho
            have hg : (F.put o.dst v).getO o.dst = v ∨ F.put o.dst ((F.put o.dst v).getO o.dst) = F.put o.dst v := .inr put_getO.symm
            refine anyT_val (v := (F.put o.dst v).getO o.dst) (T' := .look e.i o ((F.put o.dst v).getO o.dst) :: Pn) hW ho hA (.inr ⟨hl, hself', rfl⟩) s.length L F h inv.cl (Region.free_spec ho hf) hr' ?_ (oldOK_spec hold) (fun p hp => ?_) ?_ ?_
            · rw [← put_getO]; exact hstep
            · cases p with
              | look m om u =>
                obtain ⟨h1, h2, h3, h4⟩ := inv.live _ (findLook_mem (inv.looks m om u hp))
                exact ⟨h3, freesB_spec (hfr' _ h1) h2⟩
              | var m d => trivial
            · rw [← put_getO]; exact inv.chk hfr' hvs' hok
            · rw [← put_getO]
              refine drawK_any hW s _ (e.i :: lk) vs _ _ _ _ hB ?_ hk
              have inv' := inv.put (x := v) hr' hfr'
              have hei : L.getD e.i false = false := getD_both' (mem_ready.1 hr').1
              refine ⟨inv'.cl, fun m om u hm => ?_, fun m d hm => ?_, fun y hy => ?_, fun m hm => ?_⟩
              · rcases List.mem_cons.1 hm with hm | hm
                · cases hm
                  simp [findLook]
                · have hfl := inv.looks m om u hm
                  have hml := inv.listed m (inv.live _ (findLook_mem hfl)).1
                  simp only [findLook]
                  split
                  · rename_i hd
                    have := of_decide_eq_true hd
                    subst this
                    rw [hei] at hml
                    cases hml
                  · exact hfl
              · rcases List.mem_cons.1 hm with hm | hm
                · cases hm
                · exact inv.vars m d hm
              · rcases List.mem_cons.1 hy with rfl | hy
                · refine ⟨by simp, ho, hl, ?_⟩
                  show stepK E C f ops.toList o (F.put o.dst v) h one = some ((F.put o.dst v).put o.dst ((F.put o.dst v).getO o.dst), h)
                  have := look_over (F := F) (h := h) (E := E) (C := C) (f := f) (ops := ops) (d := o.dst) (v := v) (u := v) hl hself' hstep
                  rw [this]
                  have e1 : F.put o.dst v = F.put o.dst ((F.put o.dst v).getO o.dst) := put_getO
                  rw [put_eq e1 (G := F.put o.dst v) len_put.symm]
                · obtain ⟨h1, h2⟩ := inv'.live y hy
                  exact ⟨by simp [h1], h2⟩
              · rcases List.mem_cons.1 hm with rfl | hm
                · have hs : e.i < L.size := by rw [inv.cl.size]; exact (Array.getElem?_eq_some_iff.1 ho).1
                  simp [hs]
                · exact inv'.listed m hm
          · cases hk
        · cases hk
      · -- own
        rename_i hkind
        simp only [hkind] at hk
        simp only [Bool.and_eq_true] at hB
        obtain ⟨⟨⟨⟨⟨hlk, hown⟩, hg⟩, hr⟩, hf⟩, hB⟩ := hB
        have hr' : e.i ∈ Region.ready .any ops L := by simpa using hr
        have hlk' : lk = [] := by simpa using hlk
        have hgu : o.guard = none := by simpa using hg
        have hTn : T = [] := by
          cases T with
          | nil => rfl
          | cons x T => have := (inv.live x (by simp)).1; rw [hlk'] at this; cases this
        split at hB
        · rename_i d hd
          simp only [Bool.and_eq_true] at hB
          obtain ⟨hne, hB⟩ := hB
          simp only [hd] at hk
          split at hk
          · cases hk
          · rename_i hno
            split at hk
            · cases hk
            · rename_i hold
              obtain ⟨d', x, cs, hd', hx, hs, hk, hall⟩ := own_loc hown hk
              rw [hd] at hd'
              cases hd'
              have hyes : ∀ {G : Fr} {h' : Hp} {σ : Type} {k : Fr → Hp → Option σ}, stepK E C f ops.toList o G h' k = opK E C f o G h' k := stepK_yes (by rw [hgu]; rfl)
              refine anyT_own (F := F) (cs := cs) (z := x) hW ho hd (fun p hp => ?_) (fun {G h'} ha hs' => by rw [hyes]; exact hall G h' one ha.1 hs') s.length L F h ⟨fun _ _ => rfl, rfl⟩ inv.cl (Region.free_spec ho hf) hr' hno hold (fun p hp hask => ?_) ?_
              · cases p with
                | look m om u => have := inv.looks m om u hp; rw [hTn] at this; cases this
                | var m d' => exact ⟨m, d', rfl⟩
              · cases p with
                | look m om u => have := inv.looks m om u hp; rw [hTn] at this; cases this
                | var m d' =>
                  intro t ht
                  rw [hd] at ht
                  cases ht
                  have hdd := List.all_eq_true.1 hne _ (inv.vars m d' hp)
                  have hdd : d' ≠ d := by simpa using hdd
                  rw [get_set]
                  split
                  · rcases hx with rfl | ⟨n, rfl⟩ <;> simp [hasSelf, Ne.symm hdd]
                  · show hasSelf d' (F.get d) = false
                    exact hasSelf_not hold
              · refine drawK_any hW s T [] ((e.i, d) :: vs) _ _ _ _ hB ⟨inv.cl.set hr', fun m om u hm => ?_, fun m d' hm => ?_, fun y hy => ?_, fun m hm => by cases hm⟩ hk
                · rcases List.mem_cons.1 hm with hm | hm
                  · cases hm
                  · exact inv.looks m om u hm
                · rcases List.mem_cons.1 hm with hm | hm
                  · cases hm; simp
                  · exact List.mem_cons_of_mem _ (inv.vars m d' hm)
                · rw [hTn] at hy; cases hy
        · cases hB
      · -- act
        rename_i hkind
        simp only [hkind] at hk
        simp only [Bool.and_eq_true, decide_eq_true_eq] at hB
        obtain ⟨⟨⟨hA, hr⟩, hlk⟩, hB⟩ := hB
        have hr' : e.i ∈ Region.ready .any ops L := by rw [hr]; simp
        obtain ⟨F', h', hk, hstep⟩ := stepK_one hk
        split at hk
        · rename_i hok
          obtain ⟨T2, hk, h1, h2, h3⟩ := relookK_spec hk (fun x hx => (inv.live x hx).2.2.1)
          have hkeep : ∀ m om u, Pend.look m om u ∈ Pn → W e.i m = true ∨ m ∈ e.looks := fun m om u hp => by
            have := List.all_eq_true.1 hlk m (inv.live _ (findLook_mem (inv.looks m om u hp))).1
            simpa using this
          have hel : (L.setIfInBounds e.i true).getD e.i false = true := by
            have hs : e.i < L.size := by rw [inv.cl.size]; exact (Array.getElem?_eq_some_iff.1 ho).1
            simp [hs]
          refine anyT_act hr ho hstep (fun p hp hask => ?_) ?_
          · cases p with
            | look m om u =>
              have hw : W e.i m = false := hask.1 hA
              have hm : m ∈ e.looks := (hkeep m om u hp).resolve_left (by rw [hw]; simp)
              exact (h1 _ (findLook_mem (h2 m hm _ (inv.looks m om u hp)))).2.2
            | var m d =>
              intro t ht
              rcases hvs' _ (inv.vars m d hp) with hw | hm
              · have : W e.i m = false := hask
                rw [hw] at this
                cases this
              · have := varsOK_spec hok d hm
                rw [ht] at this
                exact this
          · refine AnyT.drop (T' := Pn.filter fun p => match p with | .look m _ _ => e.looks.contains m | .var _ _ => true) _ _ _ _ (fun p hp => ?_)
              (drawK_any hW s T2 e.looks vs _ _ _ _ hB ⟨inv.cl.set hr', fun m om u hm => ?_, fun m d hm => ?_, fun y hy => ?_, fun m hm => ?_⟩ hk)
            · cases p with
              | var m d => exact .inl (List.mem_filter.2 ⟨hp, rfl⟩)
              | look m om u =>
                rcases hkeep m om u hp with hw | hm
                · exact .inr ⟨e.i, m, om, u, rfl, hel, hA, hw⟩
                · exact .inl (List.mem_filter.2 ⟨hp, by simpa using hm⟩)
            · obtain ⟨hm1, hm2⟩ := List.mem_filter.1 hm
              exact h2 m (by simpa using hm2) _ (inv.looks m om u hm1)
            · exact inv.vars m d (List.mem_filter.1 hm).1
            · obtain ⟨k1, k2, k3⟩ := h1 y hy
              obtain ⟨l1, l2, l3, _⟩ := inv.live y k2
              exact ⟨k1, l2, l3, k3⟩
            · obtain ⟨p, hp⟩ := h3 m hm
              exact getD_set_true (inv.listed m (inv.live _ hp).1)
        · cases hk

section
variable {base : Nat} {w0 we w : World} {μe μ : Mu} {β : Bt} {a : Act} {Q : Exit → Act → World → Prop}

theorem ST.drew (st : ST base w0 μe we μ β F h a w) : ST base w0 μe we μ β F h a w.drew :=
  ⟨st.le, st.grow, fun k hk hn => st.keep k hk hn, st.size, st.bas, st.hr.drew, st.fr.move (Nat.le_refl _) fun _ _ _ _ _ => rfl⟩

/-- A region whose order is drawn. -/
theorem draw_wp (hN : NoCount E.P) (hC : CalleeOK E.P base w0 C) (hm : E.P.follows .mixedOrders = true) {s : List Ent} (hs : schedB E f ops s = true) {k : Fr → Hp → Option ρ} (st : ST base w0 μe we μ β F h a w)
    (hk : drawK E C f ops.toList s [] F h k = some r) (hQ : ∀ μ β F h a w, ST base w0 μe we μ β F h a w → k F h = some r → Q .normal a w) (id : Nat) : (Code.region id ops true).wp E.P Q a w := by
  simp only [schedB, Bool.and_eq_true, decide_eq_true_eq] at hs
  obtain ⟨⟨hms, hlen⟩, hgo⟩ := hs
  refine wp_region_any hm ?_
  have hrep : ∀ j, (Array.replicate ops.size false).getD j false = false := fun j => by
    rcases Nat.lt_or_ge j ops.size with h | h
    · simp [h]
    · simp [h]
  have H := drawK_any (masksOK_spec hms) s [] [] [] [] (Array.replicate ops.size false) F h hgo
    ⟨⟨by simp, fun j oj _ hl => by rw [hrep] at hl; cases hl⟩, (fun _ _ _ h => nomatch h), (fun _ _ h => nomatch h), (fun _ h => nomatch h), (fun _ h => nomatch h)⟩ hk
  rw [hlen] at H
  exact any_wp hN hC hQ ops.size _ μ β F h a _ st.drew H
end
end
end Go.Ev
