/- All operations that look at the frame's slots alone: the model's run is what the evaluator says. -/
import Derived.Test.YtkgfoiinbnhpbaaEvD
namespace Go.Ev
open Go Go.RowKit
section
variable {P : Program} {μ : Mu} {β : Bt} {ρ : Type}

theorem run_equalIn_nil (d : Nat) (t e : TypeId) (x y : Value) (w : World) (h : P.underlying t = some (.pointer e)) (b : Bool)
    (hb : (x = .pointer none ∧ y = .pointer none ∧ b = true) ∨ (∃ a, x = .pointer none ∧ y = .pointer (some a) ∧ b = false) ∨ (∃ a, x = .pointer (some a) ∧ y = .pointer none ∧ b = false)) :
    (Op.equalIn (d + 1) t x y).run P w = .ok b w := by
  rcases hb with ⟨rfl, rfl, rfl⟩ | ⟨a, rfl, rfl, rfl⟩ | ⟨a, rfl, rfl, rfl⟩ <;> simp [Op.equalIn, run_underlying h]
theorem run_equal_nil (t e : TypeId) (x y : Value) (w : World) (h : P.underlying t = some (.pointer e)) (b : Bool)
    (hb : (x = .pointer none ∧ y = .pointer none ∧ b = true) ∨ (∃ a, x = .pointer none ∧ y = .pointer (some a) ∧ b = false) ∨ (∃ a, x = .pointer (some a) ∧ y = .pointer none ∧ b = false)) :
    (Op.equal t x y).run P w = .ok b w := by
  unfold Op.equal Op.maxDepth
  exact run_equalIn_nil 9999 t _ x y w h b hb
theorem run_equalIn_iface (d : Nat) (t : TypeId) (ms : Array (String × TypeId)) (x y : Value) (w : World) (h : P.underlying t = some (.interface ms)) (b : Bool)
    (hb : (x = .nilIface ∧ y = .nilIface ∧ b = true) ∨ (∃ u a, x = .nilIface ∧ y = .iface u a ∧ b = false) ∨ (∃ u a, x = .iface u a ∧ y = .nilIface ∧ b = false)) :
    (Op.equalIn (d + 1) t x y).run P w = .ok b w := by
  rcases hb with ⟨rfl, rfl, rfl⟩ | ⟨u, a, rfl, rfl, rfl⟩ | ⟨u, a, rfl, rfl, rfl⟩ <;> simp [Op.equalIn, run_underlying h]
theorem run_equal_iface (t : TypeId) (ms : Array (String × TypeId)) (x y : Value) (w : World) (h : P.underlying t = some (.interface ms)) (b : Bool)
    (hb : (x = .nilIface ∧ y = .nilIface ∧ b = true) ∨ (∃ u a, x = .nilIface ∧ y = .iface u a ∧ b = false) ∨ (∃ u a, x = .iface u a ∧ y = .nilIface ∧ b = false)) :
    (Op.equal t x y).run P w = .ok b w := by
  unfold Op.equal Op.maxDepth
  exact run_equalIn_iface 9999 t _ x y w h b hb
theorem run_equalIn_slice (d : Nat) (t e : TypeId) (x y : Value) (w : World) (h : P.underlying t = some (.slice e)) (b : Bool)
    (hb : (x = .slice none 0 0 ∧ y = .slice none 0 0 ∧ b = true) ∨ (∃ a n c, x = .slice none 0 0 ∧ y = .slice (some a) n c ∧ b = false) ∨ (∃ a n c, x = .slice (some a) n c ∧ y = .slice none 0 0 ∧ b = false)) :
    (Op.equalIn (d + 1) t x y).run P w = .ok b w := by
  rcases hb with ⟨rfl, rfl, rfl⟩ | ⟨a, n, c, rfl, rfl, rfl⟩ | ⟨a, n, c, rfl, rfl, rfl⟩ <;> simp [Op.equalIn, run_underlying h]
theorem run_equal_slice (t e : TypeId) (x y : Value) (w : World) (h : P.underlying t = some (.slice e)) (b : Bool)
    (hb : (x = .slice none 0 0 ∧ y = .slice none 0 0 ∧ b = true) ∨ (∃ a n c, x = .slice none 0 0 ∧ y = .slice (some a) n c ∧ b = false) ∨ (∃ a n c, x = .slice (some a) n c ∧ y = .slice none 0 0 ∧ b = false)) :
    (Op.equal t x y).run P w = .ok b w := by
  unfold Op.equal Op.maxDepth
  exact run_equalIn_slice 9999 t _ x y w h b hb
theorem run_equal_bool (t : TypeId) (a c : Bool) (w : World) (h : P.underlying t = some .bool) : (Op.equal t (.bool a) (.bool c)).run P w = .ok (a == c) w := by
  unfold Op.equal Op.maxDepth
  exact run_equalIn_bool' w 9999 t a c h

/-- The guard lets by what is no two nil interface values and no two structs with such. -/
theorem run_eqGuard_other (op : BinOp) (t : TypeId) (ox oy : Operand) (x y : Value) (w : World)
    (h : ¬ (x = .nilIface ∧ y = .nilIface) ∧ ¬ (∃ as bs, x = .agg as ∧ y = .agg bs)) : (eqGuard op t ox oy x y).run P w = .ok () w := by
  unfold eqGuard
  cases op <;> simp only [Bool.not_true, Bool.not_false, Bool.false_eq_true, if_false, if_true, Sem.run_pure, Sem.run_bind, Result.andThen_ok]
  all_goals
    split
    · exact absurd ⟨rfl, rfl⟩ h.1
    · exact absurd ⟨_, _, rfl, rfl⟩ h.2
    · rfl

theorem eqV_some {t : TypeId} {ox oy : Operand} {x y : V} {cx cy : Value} {b : Bool} (hx : VR μ x cx) (hy : VR μ y cy) (h : eqV P t (isConst ox || isConst oy) x y = some b) (w : World) :
    (∀ op, (eqGuard op t ox oy cx cy).run P w = .ok () w) ∧ (Op.equal t cx cy).run P w = .ok b w ∧ (∀ k n, cx ≠ .int k n) ∧ (∀ k n, cx ≠ .float k n) ∧ (∀ k n m, cx ≠ .complex k n m) ∧ (∀ s, cx ≠ .string s) := by
  unfold eqV at h
  split at h
  · rename_i hu
    split at h
    · simp only [VR] at hx hy; subst hx; subst hy
      cases h
      exact ⟨fun op => run_eqGuard_other op t ox oy _ _ w (by simp), run_equal_bool t _ _ w hu, by simp, by simp, by simp, by simp⟩
    · cases h
  · rename_i e hu
    split at h
    · simp only [VR] at hx hy; subst hx; subst hy; cases h
      exact ⟨fun op => run_eqGuard_other op t ox oy _ _ w (by simp), run_equal_nil t e _ _ w hu _ (.inl ⟨rfl, rfl, rfl⟩), by simp, by simp, by simp, by simp⟩
    · simp only [VR] at hx hy; subst hx; obtain ⟨i, _, rfl⟩ := hy; cases h
      exact ⟨fun op => run_eqGuard_other op t ox oy _ _ w (by simp), run_equal_nil t e _ _ w hu _ (.inr (.inl ⟨_, rfl, rfl, rfl⟩)), by simp, by simp, by simp, by simp⟩
    · simp only [VR] at hx hy; obtain ⟨i, _, rfl⟩ := hx; subst hy; cases h
      exact ⟨fun op => run_eqGuard_other op t ox oy _ _ w (by simp), run_equal_nil t e _ _ w hu _ (.inr (.inr ⟨_, rfl, rfl, rfl⟩)), by simp, by simp, by simp, by simp⟩
    · cases h
  · rename_i ms hu
    split at h
    · simp only [VR] at hx hy; subst hx; subst hy
      split at h
      · rename_i hl
        cases h
        refine ⟨fun op => ?_, run_equal_iface t ms _ _ w hu _ (.inl ⟨rfl, rfl, rfl⟩), by simp, by simp, by simp, by simp⟩
        unfold eqGuard
        cases op <;> simp only [Bool.not_true, Bool.not_false, Bool.false_eq_true, if_false, if_true, Sem.run_pure, Sem.run_bind, Result.andThen_ok]
        all_goals
          cases ox <;> cases oy <;> first
            | (simp [isConst] at hl; done)
            | simp
      · cases h
    · simp only [VR] at hx hy; subst hx; obtain ⟨u, rfl, _⟩ := hy; cases h
      exact ⟨fun op => run_eqGuard_other op t ox oy _ _ w (by simp), run_equal_iface t ms _ _ w hu _ (.inr (.inl ⟨_, _, rfl, rfl, rfl⟩)), by simp, by simp, by simp, by simp⟩
    · simp only [VR] at hx hy; obtain ⟨u, rfl, _⟩ := hx; subst hy; cases h
      exact ⟨fun op => run_eqGuard_other op t ox oy _ _ w (by simp), run_equal_iface t ms _ _ w hu _ (.inr (.inr ⟨_, _, rfl, rfl, rfl⟩)), by simp, by simp, by simp, by simp⟩
    · cases h
  · rename_i e hu
    split at h
    · simp only [VR] at hx hy; subst hx; subst hy; cases h
      exact ⟨fun op => run_eqGuard_other op t ox oy _ _ w (by simp), run_equal_slice t e _ _ w hu _ (.inl ⟨rfl, rfl, rfl⟩), by simp, by simp, by simp, by simp⟩
    · simp only [VR] at hx hy; subst hx; obtain ⟨i, a, cap, _, rfl, _⟩ := hy; cases h
      exact ⟨fun op => run_eqGuard_other op t ox oy _ _ w (by simp), run_equal_slice t e _ _ w hu _ (.inr (.inl ⟨_, _, _, rfl, rfl, rfl⟩)), by simp, by simp, by simp, by simp⟩
    · simp only [VR] at hx hy; obtain ⟨i, a, cap, _, rfl, _⟩ := hx; subst hy; cases h
      exact ⟨fun op => run_eqGuard_other op t ox oy _ _ w (by simp), run_equal_slice t e _ _ w hu _ (.inr (.inr ⟨_, _, _, rfl, rfl, rfl⟩)), by simp, by simp, by simp, by simp⟩
    · cases h
  · rename_i fs hu
    split at h
    · split at h
      · rename_i l hg hl
        have hvx := hx
        have hvy := hy
        simp only [VR] at hx hy
        obtain ⟨xs, rfl, _⟩ := hx
        obtain ⟨ys, rfl, _⟩ := hy
        refine ⟨fun op => run_eqGuard_agg w op t ox oy xs ys hg, ?_, by simp, by simp, by simp, by simp⟩
        unfold Op.equal Op.maxDepth
        exact equal_plain 8 t 10000 _ _ _ _ b l hl (by omega) hvx hvy (by simp [shaped, hu]) (by simp [shaped, hu]) h w
      · cases h
    · cases h
  · cases h

theorem binOp_eql {t : TypeId} {cx cy : Value} {b : Bool} {w : World} (h : (Op.equal t cx cy).run P w = .ok b w)
    (h1 : ∀ k n, cx ≠ .int k n) (h2 : ∀ k n, cx ≠ .float k n) (h3 : ∀ k n m, cx ≠ .complex k n m) (h4 : ∀ s, cx ≠ .string s) :
    (binOp .eql t cx cy).run P w = .ok (.bool b) w ∧ (binOp .neq t cx cy).run P w = .ok (.bool !b) w := by
  constructor
  · unfold binOp
    split <;> first
      | contradiction
      | exact absurd rfl (h1 _ _)
      | exact absurd rfl (h2 _ _)
      | exact absurd rfl (h3 _ _ _)
      | exact absurd rfl (h4 _)
      | (simp only [Sem.run_bind, h, Result.andThen_ok, Sem.run_pure]; done)
      | simp_all
  · unfold binOp
    split <;> first
      | contradiction
      | exact absurd rfl (h1 _ _)
      | exact absurd rfl (h2 _ _)
      | exact absurd rfl (h3 _ _ _)
      | exact absurd rfl (h4 _)
      | (simp only [Sem.run_bind, h, Result.andThen_ok, Sem.run_pure]; done)
      | simp_all

theorem binK_some {op : BinOp} {t : TypeId} {ox oy : Operand} {x y : V} {cx cy : Value} {k : V → Option ρ} {r : ρ} (hx : VR μ x cx) (hy : VR μ y cy)
    (h : binK P op t (isConst ox || isConst oy) x y k = some r) (w : World) :
    ∃ v c, k v = some r ∧ VR μ v c ∧ (do eqGuard op t ox oy cx cy; binOp op t cx cy : Sem Value).run P w = .ok c w := by
  unfold binK at h
  split at h
  · simp only [VR] at hx hy; subst hx; subst hy
    split at h
    · exact shiftK_some (l := true) h t w ox oy
    · exact shiftK_some (l := false) h t w ox oy
    · split at h
      · rename_i hk
        have := of_decide_eq_true hk
        subst this
        exact intK_some h t w ox oy
      · cases h
  · split at h
    · cases he : eqV P t (isConst ox || isConst oy) x y with
      | none => simp [he] at h
      | some b =>
        simp only [he, Option.bind_some] at h
        obtain ⟨hg, hq, h1, h2, h3, h4⟩ := eqV_some hx hy he w
        refine ⟨_, .bool b, h, by simp [VR], ?_⟩
        simp only [Sem.run_bind, hg, Result.andThen_ok]
        exact (binOp_eql hq h1 h2 h3 h4).1
    · cases he : eqV P t (isConst ox || isConst oy) x y with
      | none => simp [he] at h
      | some b =>
        simp only [he, Option.bind_some] at h
        obtain ⟨hg, hq, h1, h2, h3, h4⟩ := eqV_some hx hy he w
        refine ⟨_, .bool (!b), h, by simp [VR], ?_⟩
        simp only [Sem.run_bind, hg, Result.andThen_ok]
        exact (binOp_eql hq h1 h2 h3 h4).2
    · cases h
end
end Go.Ev
