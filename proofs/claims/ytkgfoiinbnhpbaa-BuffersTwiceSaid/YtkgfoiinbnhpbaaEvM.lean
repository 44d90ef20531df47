/- append, copy, makes: how the relation goes on. -/
import Derived.Test.YtkgfoiinbnhpbaaEvL
namespace Go.Ev
open Go Go.RowKit
section
variable {P : Program} {base : Nat} {w0 we w w' : World} {μe μ ν : Mu} {β : Bt} {F : Fr} {h h' : Hp} {a : Act} {ρ : Type} {K : Act → World → Prop} {Q : Exit → Act → World → Prop}

theorem repl_length (z : List V) : ∀ n, (repl n z).length = n * z.length
  | 0 => by simp [repl]
  | n + 1 => by simp [repl, repl_length z n, Nat.add_mul, Nat.add_comm]
theorem repl_mem {z : List V} {v : V} : ∀ {n}, v ∈ repl n z → v ∈ z
  | 0, h => by simp [repl] at h
  | n + 1, h => by
    simp only [repl] at h
    rcases List.mem_append.1 h with h | h
    · exact h
    · exact repl_mem h
theorem repl_get (z : List V) : ∀ (n j : Nat), j < n * z.length → (repl n z)[j]? = z[j % z.length]?
  | 0, j, h => by omega
  | n + 1, j, h => by
    simp only [repl, List.getElem?_append]
    split
    · rename_i hj; rw [Nat.mod_eq_of_lt hj]
    · rename_i hj
      rw [repl_get z n (j - z.length) (by rw [Nat.add_mul] at h; omega)]
      congr 1
      rw [Nat.mod_eq_sub_mod (by omega : j ≥ z.length)]
theorem zeros_rel {z : List V} {zv : Value} (hz : VRs μ z zv.cells.toList) (n : Nat) : VRs μ (repl n z) (Builtin.zeroCells zv.cells n).toList := by
  have hl := hz.length
  simp only [Array.length_toList] at hl
  refine VRs.of_get (by simp [Builtin.zeroCells, repl_length, hl]) fun j v hv => ?_
  have hj : j < n * z.length := by have := (List.getElem?_eq_some_iff.1 hv).1; rw [repl_length] at this; exact this
  rw [repl_get z n j hj] at hv
  obtain ⟨c, hc, hvc⟩ := hz.get hv
  have hlt : j % z.length < zv.cells.size := by rw [hl]; exact Nat.mod_lt _ (Nat.pos_of_ne_zero fun e => by rw [e] at hj; omega)
  refine ⟨c, ?_, hvc⟩
  simp only [Builtin.zeroCells, Array.toList_map, Array.toList_range, List.getElem?_map, hl]
  rw [List.getElem?_range hj]
  simp only [Option.map_some]
  congr 1
  rw [getElem!_pos zv.cells _ hlt]
  have : zv.cells[j % z.length]? = some c := by simpa using hc
  exact (Array.getElem?_eq_some_iff.1 this).2

theorem appendSource_some (hr : HR base w0 μ h w) {eb : Nat} (hf : FR eb μ β F a w) {t u e : TypeId} {i : TypeInfo} {zv : Value} {size : Nat} {x : FV} {cx : Value} {k : List V → Nat → Option ρ} {r : ρ}
    (hi : P.info? e = some i) (his : i.size = size) (hz : i.zero = some zv) (hx : FVR μ β x cx) (hk : appendSourceK P t u e size F x h k = some r) (hzs : zv.cells.size = i.size) :
    ∃ (cs : List V) (n : Nat) (ds : List Value), k cs n = some r ∧ VRs μ cs ds ∧ (∀ v ∈ cs, v.one = true) ∧ cs.length = n * size ∧ (Src P t u i zv cx n ds w ∨ (u = t ∧ cx = .slice none 0 0 ∧ n = 0 ∧ ds = [])) := by
  subst his
  unfold appendSourceK at hk
  split at hk
  · rename_i kd' hu
    split at hk
    · rename_i kd l
      split at hk
      · rename_i hc
        split at hk
        · rename_i z hz'
          simp only [FVR, VR] at hx
          subst hx
          obtain ⟨i', zv', hi', hzv', hrel⟩ := zeroCells_spec hz'
          rw [hi] at hi'
          cases hi'
          rw [hz] at hzv'
          cases hzv'
          obtain ⟨h1, h2⟩ := hrel μ
          have hzl := h1.length
          simp only [Array.length_toList] at hzl
          have hb : P.bytesOf e = i.bytes := by simp [Program.bytesOf, hi]
          rw [hb] at hc
          refine ⟨_, _, _, hk, zeros_rel h1 l.toNat, fun v hv => h2 v (repl_mem hv), by rw [repl_length]; congr 1; omega, .inl (.zeros kd kd' l hu rfl hc.1 hc.2.1 rfl hc.2.2 rfl)⟩
        · cases hk
      · cases hk
    · cases hk
  · split at hk
    · rename_i hut
      have hut := of_decide_eq_true hut
      obtain ⟨cs, n, ds, h1, h2, h3, h4, h5⟩ := sourceK_some hr hf hx hk
      refine ⟨cs, n, ds, h1, h2, h3, h4, ?_⟩
      have hdl := h2.length
      rcases h5 with ⟨h5, h6⟩ | ⟨ad, cap, h5, h6⟩
      · subst h6
        refine .inr ⟨hut, h5, rfl, List.eq_nil_of_length_eq_zero (by omega)⟩
      · exact .inl (.list ad cap hut h5 (by omega) h6)
    · cases hk

/-- Nothing is appended. -/
theorem run_append_none {t u ty' e : TypeId} {i : TypeInfo} {zv cx : Value} {ds : List Value} {bs : Option Addr} {sLen sCap : Nat} (ht : P.underlying t = some (.slice e)) (hi : P.info? e = some i) (hzs : zv.cells.size = i.size)
    (hs : Src P t u i zv cx 0 ds w ∨ (u = t ∧ cx = .slice none 0 0 ∧ (0 : Nat) = 0 ∧ ds = [])) (hle : sLen ≤ sCap) :
    (Builtin.append_ #[t, u] ty' #[.slice bs sLen sCap, cx]).run P w = .ok (.slice bs sLen sCap) w := by
  have hsz := run_sizeOf w hi
  rcases hs with hs | ⟨hut, hx, _, _⟩
  · have hl := hs.len hzs
    cases hs with
    | list a cap hut hx hl hc =>
      subst hut; subst hx
      have hd : ds = [] := List.eq_nil_of_length_eq_zero (by omega)
      subst hd
      have hf := run_firstCells_some (P := P) w i.size 0 a 0 cap [] (by simp) (by simp)
      cases bs <;> simp [Builtin.append_, run_underlying ht, hsz, Builtin.lenOf, hle, hf, storeCells]
    | zeros kd kd' l hut hx h0 h2 hn hb' hds =>
      subst hx
      have hl0 : l = 0 := by omega
      subst hl0
      have hw := wrap_small (l := 0) (by omega) (by omega)
      cases bs <;> simp [Builtin.append_, run_underlying ht, run_underlying hut, hsz, typeInfo, hi, asInt, asIntOf, hw, hle, storeCells]
  · subst hut; subst hx
    cases bs <;> simp [Builtin.append_, run_underlying ht, hsz, Builtin.lenOf, hle, Builtin.firstCells, storeCells]

theorem VR_new {r g s b cap : Nat} (h : g ≤ cap) : VR (μ.ext r g ⟨b, 0, cap, s⟩) (.sl r g s 0 g) (.slice (some ⟨b, 0, none⟩) g cap) := by
  simp only [VR]
  exact ⟨⟨b, 0, cap, s⟩, ⟨b, 0, none⟩, cap, by simp [Mu.ext], rfl, rfl, h, by simp, by omega, fun _ => by simp⟩

theorem append_some (st : ST base w0 μe we μ β F h a w) {t u ty' e : TypeId} {i : TypeInfo} {zv cx : Value} {size bytes n : Nat} {s : V} {c : Value} {cs : List V} {ds : List Value} {k : V → Hp → Option ρ} {r : ρ}
    (ht : P.underlying t = some (.slice e)) (hi : P.info? e = some i) (his : i.size = size) (hib : i.bytes = bytes) (hsz : 0 < size) (hz : i.zero = some zv) (hzs : zv.cells.size = i.size)
    (hs : VR μ s c) (hcs : VRs μ cs ds) (hone : ∀ v ∈ cs, v.one = true) (hcl : cs.length = n * size) (hsrc : Src P t u i zv cx n ds w ∨ (u = t ∧ cx = .slice none 0 0 ∧ n = 0 ∧ ds = []))
    (hk : appendK size bytes s cs n h k = some r) :
    ∃ v h' c' w' ν, k v h' = some r ∧ VR ν v c' ∧ (Builtin.append_ #[t, u] ty' #[c, cx]).run P w = .ok c' w' ∧ ST base w0 μe we ν β F h' a w' := by
  subst his; subst hib
  have hdl := hcs.length
  unfold appendK at hk
  split at hk
  · -- a nil slice
    simp only [VR] at hs
    subst hs
    split at hk
    · rename_i hn
      subst hn
      exact ⟨_, _, _, w, μ, hk, by simp only [VR], run_append_none ht hi hzs hsrc (Nat.le_refl _), st⟩
    · rename_i hn
      split at hk
      · rename_i hb
        have hsrc' : Src P t u i zv cx n ds w := by
          rcases hsrc with hs | ⟨_, _, h0, _⟩
          · exact hs
          · exact absurd h0 hn
        obtain ⟨arr, cap, hrun, hge, hasz, htake⟩ := run_append_more (ty' := ty') (bs := none) (olds := []) ht hi hz hzs hsz hsrc' (by simp) (fun w1 _ => by simp [Builtin.firstCells]) (Nat.le_refl 0) (by omega) (by have := hb.2; omega) (by rw [Nat.zero_add]; exact hb.1)
        simp only [Nat.zero_add, List.nil_append] at hrun hge htake
        have std : ST base w0 μe we μ β F h a w.drew := ⟨st.le, st.grow, st.keep, st.size, st.bas, st.hr.drew, st.fr.move (Nat.le_refl _) fun _ _ _ _ _ => rfl⟩
        have hv : ∀ (j : Nat) (v : V), cs[j]? = some v → ∃ c, arr[j]? = some c ∧ VR μ v c := by
          intro j v hj
          obtain ⟨c, hc, hvc⟩ := hcs.get hj
          refine ⟨c, ?_, hvc⟩
          have hjl : j < n * i.size := by have := (List.getElem?_eq_some_iff.1 hj).1; omega
          rw [← htake, List.getElem?_take, if_pos hjl] at hc
          simpa using hc
        have := std.newRow (x := { cells := cs, size := i.size, bytes := i.bytes, clean := 0, ro := false }) (arr := arr) (e := e) (g := n) (cap := cap) rfl hone hcl.symm hge hasz hv
        refine ⟨_, _, _, _, _, hk, ?_, hrun, this⟩
        exact VR_new hge
      · cases hk
  · -- a list
    rename_i r' g s' o m
    cases hrow : h.rows r' with
    | none => simp [hrow] at hk
    | some x =>
      simp only [hrow, Option.bind_some] at hk
      have hsv := hs
      simp only [VR] at hs
      obtain ⟨j, ad, cap, hj, rfl, hjs, hm, hoc, hgc, had⟩ := hs
      split at hk
      · rename_i hn
        subst hn
        exact ⟨_, _, _, w, μ, hk, hsv, run_append_none ht hi hzs hsrc hm, st⟩
      · rename_i hn
        have hsrc' : Src P t u i zv cx n ds w := by
          rcases hsrc with hs | ⟨_, _, h0, _⟩
          · exact hs
          · exact absurd h0 hn
        split at hk
        · rename_i hc
          obtain ⟨rfl, hxb, hnow, hog⟩ := hc
          obtain ⟨hclean, hgl, hro⟩ := hnow
          have hnow : x.now g := ⟨hclean, hgl, hro⟩
          obtain ⟨hjx, hgcap, hview⟩ := st.hr.view r' x hrow g j hj hclean
          have hxs : x.size = i.size := by omega
          obtain ⟨hbb, cur, e', hblk, hcur⟩ := st.hr.own r' x hrow hro g j hj hclean hgl
          have hxl : x.cells.length = g * i.size := by rw [← hgl, hxs]
          have hcurg : j.base + g * i.size ≤ cur.size := by rw [hcur, hxs]; have := Nat.mul_le_mul_right i.size hgcap; omega
          have hblkc : ∀ (jj : Nat) (v : V), x.cells[jj]? = some v → ∃ c, cur.toList[j.base + jj]? = some c ∧ VR μ v c := by
            intro jj v hvj
            have hjl : jj < x.cells.length := (List.getElem?_eq_some_iff.1 hvj).1
            obtain ⟨c', hc', hvc⟩ := hview jj v (by omega) hvj
            rw [cell_of_row w _ _ _ _ _ hblk] at hc'
            exact ⟨c', by simpa using hc', hvc⟩
          split at hk
          · -- at its end
            rename_i hom
            have e1 : j.base + o * i.size + m * i.size = j.base + g * i.size := by rw [Nat.add_assoc, ← Nat.add_mul, hom]
            have hfitb : j.base + m * i.size + o * i.size ≤ cur.size := by omega
            -- in place
            have place : m + n ≤ cap → (Builtin.append_ #[t, u] ty' #[.slice (some ad) m cap, cx]).run P w =
                .ok (.slice (some ⟨j.blk, j.base + o * i.size, none⟩) (m + n) cap) (w.setRow j.blk (cur.toList.take (j.base + g * i.size) ++ ds ++ cur.toList.drop (j.base + g * i.size + ds.length)).toArray) ∧
                (cur.toList.take (j.base + g * i.size) ++ ds ++ cur.toList.drop (j.base + g * i.size + ds.length)).length = cur.size ∧
                ∀ (jj : Nat) (v : V), (x.cells ++ cs)[jj]? = some v → ∃ c, (cur.toList.take (j.base + g * i.size) ++ ds ++ cur.toList.drop (j.base + g * i.size + ds.length)).toArray[j.base + jj]? = some c ∧ VR μ v c := by
              intro hfit
              have had := had (by omega)
              subst had
              have hgsz : j.base + g * i.size + ds.length ≤ cur.size := by
                rw [hcur, hxs, hdl, hcl, Nat.add_assoc, ← Nat.add_mul]
                have := Nat.mul_le_mul_right i.size (show g + n ≤ j.cap by omega)
                omega
              have hrun := run_append_fit (ty' := ty') (o := j.base + o * i.size) ht hi hz hzs hsz hsrc' hblk hfit (by omega) (hcs.ones hone)
              rw [e1] at hrun
              refine ⟨hrun, by simp; omega, fun jj v hvj => ?_⟩
              rw [List.getElem?_toArray, over_get _ _ (by simpa using hgsz)]
              rw [List.getElem?_append] at hvj
              split at hvj
              · rename_i hlt
                rw [if_neg (by omega)]
                exact hblkc jj v hvj
              · rename_i hlt
                have hjl := (List.getElem?_eq_some_iff.1 hvj).1
                rw [if_pos (by omega)]
                obtain ⟨c', hc', hvc⟩ := hcs.get hvj
                exact ⟨c', by rw [← hc']; congr 1; omega, hvc⟩
            -- into a new block
            have hol : ((cur.toList.drop (j.base + o * i.size)).take (m * i.size)).length = m * i.size := by simp; omega
            have hold : ∀ w1 : World, w1.heap = w.heap → (Builtin.firstCells i.size m (.slice (some ad) m cap)).run P w1 = .ok ((cur.toList.drop (j.base + o * i.size)).take (m * i.size)).toArray w1 := by
              intro w1 hw1
              by_cases hm0 : m = 0
              · subst hm0
                have := run_firstCells_some (P := P) w1 i.size 0 ad 0 cap [] (by simp) (by simp)
                simpa using this
              · have had := had (by omega)
                subst had
                refine run_firstCells_some (P := P) w1 i.size m _ m cap _ hol ?_
                intro jj v hv
                rw [List.getElem?_take] at hv
                split at hv
                · rw [List.getElem?_drop] at hv
                  rw [addr_add]
                  have : w1.cell? ⟨j.blk, j.base + o * i.size + jj, none⟩ = w.cell? ⟨j.blk, j.base + o * i.size + jj, none⟩ := World.cell?_of_block (by rw [hw1])
                  rw [this, cell_of_row w _ _ _ _ _ hblk]
                  simpa using hv
                · cases hv
            have hrelo : VRs μ (x.cells.drop (o * i.size)) ((cur.toList.drop (j.base + o * i.size)).take (m * i.size)) := by
              refine VRs.of_get (by rw [hol]; simp; omega) fun jj v hvj => ?_
              rw [List.getElem?_drop] at hvj
              have hjl := (List.getElem?_eq_some_iff.1 hvj).1
              obtain ⟨c', hc', hvc⟩ := hblkc _ v hvj
              refine ⟨c', ?_, hvc⟩
              rw [List.getElem?_take, if_pos (by omega), List.getElem?_drop, ← hc']
              congr 1
              omega
            have hsw : base ≤ w.heap.size := Nat.le_trans st.bas st.size
            have std : ST base w0 μe we μ β F h a w.drew := ⟨st.le, st.grow, st.keep, st.size, st.bas, st.hr.drew, st.fr.move (Nat.le_refl _) fun _ _ _ _ _ => rfl⟩
            split at hk
            · rename_i hroom
              have ho0 := hroom.1
              subst ho0
              have hmg : m = g := by omega
              subst hmg
              by_cases hfit : m + n ≤ cap
              · -- in place
                obtain ⟨hrun, harr, hvv⟩ := place hfit
                obtain ⟨hr', hle'⟩ := st.hr.grow (w' := w.setRow j.blk (cur.toList.take (j.base + m * i.size) ++ ds ++ cur.toList.drop (j.base + m * i.size + ds.length)).toArray) (n := n) (B := j.blk) (b0 := j.base) (cap := j.cap) (vs := cs) hrow hj hnow (by omega) (by omega) (by rw [hxs]; exact hcl) hone
                  (below_setRow (Below.refl _ _) hbb _) (.inl rfl) hbb (fun _ => rfl) (fun k _ hne => setRow_other w _ _ _ hne) (setRow_heap w _ _ _ _ _ hblk) (by omega)
                  (by simp only [List.size_toArray, harr]; exact hcur) hvv
                refine ⟨_, _, .slice (some ⟨j.blk, j.base + 0 * i.size, none⟩) (m + n) cap, _, _, hk, ?_, hrun, st.heap hr' hle' (fun k hk => ?_) (fun k _ hni => setRow_other w _ _ _ fun he => hni ⟨r', m, j, hj, he.symm⟩) (by rw [size_setRow]; exact Nat.le_refl _)⟩
                · simp only [VR]
                  refine ⟨⟨j.blk, j.base, j.cap, x.size⟩, _, cap, by simp only [Mu.ext, and_self, if_true], rfl, hxs, hfit, hoc, by omega, fun _ => by simp⟩
                · rcases Mu.ext_img hk with hk | rfl
                  · exact .inl hk
                  · exact .inl ⟨r', m, j, hj, rfl⟩
              · -- into a new block
                have hroom2 : (m + n) * i.bytes ≤ 140737488355328 := hroom.2.1
                obtain ⟨arr, cap', hrun, hge, hasz, htake⟩ := run_append_more (ty' := ty') (bs := some ad) ht hi hz hzs hsz hsrc' hol hold hm (by omega) (by have := hroom.2.2; omega) hroom2
                have hnew : (w.drew.alloc (.cells arr e)).heap[w.heap.size]? = some (.cells arr e) := heap_alloc_new w.drew _
                simp only [Nat.zero_mul, List.drop_zero] at hrelo
                obtain ⟨hr', hle'⟩ := st.hr.grow (w' := w.drew.alloc (.cells arr e)) (n := n) (B := w.heap.size) (b0 := 0) (cap := cap') (vs := cs) hrow hj hnow (by omega) (by omega) (by rw [hxs]; exact hcl) hone
                  (((Below.refl _ _).drew).alloc hsw _) (.inr rfl) hsw (fun he => by have := st.hr.imgb _ ⟨r', m, j, hj, rfl⟩; omega) (fun k hk _ => heap_alloc_old w.drew _ k hk) hnew hge (by rw [hxs, Nat.zero_add]; exact hasz)
                  (fun jj v hvj => by
                    have hjl : jj < (m + n) * i.size := by
                      have := (List.getElem?_eq_some_iff.1 hvj).1
                      rw [List.length_append, hxl, hcl, ← Nat.add_mul] at this
                      exact this
                    obtain ⟨c', hc', hvc⟩ := (hrelo.append hcs).get hvj
                    refine ⟨c', ?_, hvc⟩
                    simp only [Nat.zero_mul] at htake
                    rw [← htake, List.getElem?_take, if_pos hjl] at hc'
                    rw [Nat.zero_add]
                    simpa using hc')
                refine ⟨_, _, _, _, _, hk, ?_, hrun, st.heap hr' hle' (fun k hk => ?_) (fun k hk _ => heap_alloc_old w.drew _ k hk) (by simp)⟩
                · rw [hxs]; exact VR_new hge
                · rcases Mu.ext_img hk with hk | rfl
                  · exact .inl hk
                  · exact .inr (Nat.le_refl _)
            · split at hk
              · rename_i hroom
                have hlen : (m + n) * x.size = (x.cells.drop (o * i.size) ++ cs).length := by
                  have h1 := Nat.add_mul o m i.size
                  rw [hom] at h1
                  rw [hxs, Nat.add_mul]; simp; omega
                have hones : ∀ v ∈ x.cells.drop (o * i.size) ++ cs, v.one = true := by
                  intro v hv
                  rcases List.mem_append.1 hv with hv | hv
                  · exact st.hr.ones r' x hrow v (List.mem_of_mem_drop hv)
                  · exact hone v hv
                by_cases hfit : m + n ≤ cap
                · -- in place
                  obtain ⟨hrun, harr, hvv⟩ := place hfit
                  obtain ⟨hr', hle'⟩ := (st.hr.del r').adopt (w' := w.setRow j.blk (cur.toList.take (j.base + g * i.size) ++ ds ++ cur.toList.drop (j.base + g * i.size + ds.length)).toArray) (B := j.blk) (b0 := j.base + o * i.size) (cap := j.cap - o) (g := m + n)
                    (x := { cells := x.cells.drop (o * i.size) ++ cs, size := x.size, bytes := x.bytes, clean := 0, ro := false }) rfl hones hlen (by omega) (below_setRow (Below.refl _ _) hbb _) hbb
                    (fun r1 x1 g1 i1 hx1 hi1 he => by
                      simp only [Hp.del] at hx1
                      split at hx1
                      · cases hx1
                      · rename_i hne; exact hne (st.hr.apart r' x hrow hro g j hj r1 x1 g1 i1 hx1 hi1 he))
                    (fun k _ hne => setRow_other w _ _ _ hne) (setRow_heap w _ _ _ _ _ hblk)
                    (by
                      simp only [List.size_toArray, harr]
                      rw [hcur, hxs, Nat.sub_mul]
                      have := Nat.mul_le_mul_right i.size (show o ≤ j.cap by omega)
                      omega)
                    (fun jj v hvj => by
                      have : (x.cells ++ cs)[o * i.size + jj]? = some v := by
                        rw [← hvj, ← List.getElem?_drop, List.drop_append_of_le_length (by rw [hxl]; exact Nat.mul_le_mul_right _ (by omega))]
                      obtain ⟨c', hc', hvc⟩ := hvv _ v this
                      exact ⟨c', by rw [← hc']; congr 1; omega, hvc⟩)
                  refine ⟨_, _, .slice (some ⟨j.blk, j.base + o * i.size, none⟩) (m + n) cap, _, _, hk, ?_, hrun, st.heap hr' hle' (fun k hk => ?_) (fun k _ hni => setRow_other w _ _ _ fun he => hni ⟨r', g, j, hj, he.symm⟩) (by rw [size_setRow]; exact Nat.le_refl _)⟩
                  · simp only [VR]
                    refine ⟨⟨j.blk, j.base + o * i.size, j.cap - o, x.size⟩, _, cap, by simp [Mu.ext, Hp.del], rfl, hxs, hfit, by simp only; omega, by omega, fun _ => by simp⟩
                  · rcases Mu.ext_img hk with hk | rfl
                    · exact .inl hk
                    · exact .inl ⟨r', g, j, hj, rfl⟩
                · -- into a new block
                  have hroom2 : (m + n) * i.bytes ≤ 140737488355328 := hroom.1
                  obtain ⟨arr, cap', hrun, hge, hasz, htake⟩ := run_append_more (ty' := ty') (bs := some ad) ht hi hz hzs hsz hsrc' hol hold hm (by omega) (by have := hroom.2; omega) hroom2
                  obtain ⟨hr', hle'⟩ := (std.hr.del r').newRow (e := e) (x := { cells := x.cells.drop (o * i.size) ++ cs, size := x.size, bytes := x.bytes, clean := 0, ro := false }) (arr := arr) (g := m + n) (cap := cap') hsw rfl hones hlen hge (by rw [hxs]; exact hasz)
                    (fun jj v hvj => by
                      have hjl : jj < (m + n) * i.size := by
                        have := (List.getElem?_eq_some_iff.1 hvj).1
                        rw [← hlen, hxs] at this
                        exact this
                      obtain ⟨c', hc', hvc⟩ := (hrelo.append hcs).get hvj
                      refine ⟨c', ?_, hvc⟩
                      rw [← htake, List.getElem?_take, if_pos hjl] at hc'
                      simpa using hc')
                  refine ⟨_, _, _, _, _, hk, ?_, hrun, st.heap hr' hle' (fun k hk => ?_) (fun k hk _ => heap_alloc_old w.drew _ k hk) (by simp)⟩
                  · rw [hxs]; exact VR_new hge
                  · rcases Mu.ext_img hk with hk | rfl
                    · exact .inl hk
                    · exact .inr (Nat.le_refl _)
              · cases hk
          · split at hk
            · -- over what is there
              rename_i hfit
              have hcapn : m + n ≤ cap := by omega
              have had := had (by omega)
              subst had
              have hgsz : j.base + o * i.size + m * i.size + ds.length ≤ cur.size := by
                have h1 := Nat.mul_le_mul_right i.size hfit
                rw [Nat.add_mul, Nat.add_mul] at h1
                omega
              have hrun := run_append_fit (ty' := ty') (o := j.base + o * i.size) ht hi hz hzs hsz hsrc' hblk hcapn (by omega) (hcs.ones hone)
              have e2 : j.base + o * i.size + m * i.size = j.base + (o + m) * i.size := by rw [Nat.add_mul, Nat.add_assoc]
              rw [e2] at hrun
              obtain ⟨cur2, e3, hb2, _, _, hr'⟩ := st.hr.storeRow (o := (o + m) * i.size) hrow hj hnow hcs hone (by
                rw [hxl, hcl, ← Nat.add_mul]
                exact Nat.mul_le_mul_right _ (by omega))
              rw [hblk] at hb2
              cases hb2
              refine ⟨_, _, .slice (some ⟨j.blk, j.base + o * i.size, none⟩) (m + n) cap, _, μ, hk, ?_, hrun, st.heap hr' (Mu.le_refl μ) (fun k hk => .inl hk) (fun k _ hn => setRow_other w _ _ _ fun he => hn ⟨r', g, j, hj, he.symm⟩) (by rw [size_setRow]; exact Nat.le_refl _)⟩
              simp only [VR]
              exact ⟨j, _, cap, hj, rfl, hjs, hcapn, hoc, hgc, fun _ => by simp⟩
            · cases hk
        · cases hk
  · cases hk
end
end Go.Ev
