/- Layer 21, BuffersTwice (closed, no conditions): what Twice tells is new memory each time; its todos push unlike values, none below 0; without the fence one of them is got twice, with it none is. The call returns true.
   The machine does what a plain evaluator says (EvA to EvZ); the evaluator's run of this call is worked out by the kernel. -/
import Derived.Test.YtkgfoiinbnhpbaaRows
import Derived.Test.YtkgfoiinbnhpbaaTab
import Derived.WalkKit
import Derived.ProofKit
import Derived.OpenShut
namespace Go.Ev.Ytkgfoiinbnhpbaa
open Go Go.Ev Go.RowKit
set_option maxRecDepth 100000
def okTrue : Option (V × Hp) → Bool | some (.bool true, _) => true | _ => false
theorem okTrue_some {x : Option (V × Hp)} (h : okTrue x = true) : ∃ h', x = some (.bool true, h') := by
  unfold okTrue at h
  split at h
  · exact ⟨_, rfl⟩
  · cases h
def h0 : Hp := { rows := fun _ => none, next := 0 }
theorem hr0 (W : World) : HR W.heap.size W (fun _ _ => none) h0 W :=
  ⟨Below.refl _ _, fun _ _ => ⟨rfl, fun _ => rfl⟩, (fun _ _ h => nomatch h), (fun _ _ h => nomatch h), (fun _ _ h => nomatch h), (fun _ _ h => nomatch h), (fun _ _ h => nomatch h), (fun _ _ h => nomatch h), (fun _ h => by obtain ⟨_, _, _, h, _⟩ := h; cases h)⟩
theorem twice_run : okTrue (evT tab [25] 200 4 [] h0) = true := by kernel_rfl
theorem twice_walk (W : World) : Calls Go.Proofs.Try.prog 4 #[] W fun e W' => e = .returned (.bool true) ∧ Below W.heap.size W W' := by
  obtain ⟨h', he⟩ := okTrue_some twice_run
  obtain ⟨_, hc⟩ := evT_ok (base := W.heap.size) (w0 := W) progOK tab_ok 200 4 [] h0 _ _ he
  refine (hc (fun _ _ => none) W [] (hr0 W) (Nat.le_refl _) VRs.nil).mono fun e W' h => ?_
  obtain ⟨ν, c, rfl, hv, hr, _⟩ := h
  simp only [VR] at hv
  subst hv
  exact ⟨rfl, hr.below⟩
end Go.Ev.Ytkgfoiinbnhpbaa
namespace Go.Proofs.Ytkgfoiinbnhpbaa.buffersTwice
open Go.ChangeShapes Go.WideShapes Go.ChangeAt Go.RowKit
theorem own : ownKnob Try.prog.godebug = none := by kernel_rfl
set_option maxRecDepth 100000 in
theorem lifted (os : Os) (started : os.Started) (H : Type) (enc : TypeId × Value → H) :
    ReturnsInHanded {} Try.checked os 4 .any (Rows.buffersTwiceSpec.pre6 enc Try.prog Try.f4 Rows.buffersTwiceRow.domain false) (Rows.buffersTwiceSpec.post enc Try.prog Try.f4 false true false false) := by
  refine returnsInHanded_of_change (C := Try.checked) own started (by kernel_rfl) Try.func4
    (ChangeSpec.witness6 (enc := enc) (C := Try.checked) false ⟨#[], #[], []⟩ 8 (by kernel_rfl) (by kernel_rfl) (by kernel_rfl) (by kernel_rfl)) ?_
  intro W base args ds gs before hval0 hW hcnd _
  have hW' := hW
  obtain ⟨p, q, hA0, hV, rfl, hfz, hnd⟩ := hW
  have hA : DataW.TrodAll enc Try.prog W 0 (fun _ => true) true Try.f4.params.toList args.toList ds p := hA0
  rw [Try.params4] at hA
  obtain ⟨rfl, rfl, rfl⟩ := trodAll_none hA
  obtain ⟨rfl, rfl⟩ := trodVars_none hV
  clear hA0 hval0
  simp only [List.append_nil] at hW'
  refine (Go.Ev.Ytkgfoiinbnhpbaa.twice_walk W).mono fun e W' ⟨he, hb⟩ => ?_
  subst he
  exact ⟨_, rfl, _, _, _, [], [], [], hW', trodAll_cons_mk (shut_bool Try.underlying4 _) trodAll_mk0, trodAll_mk0, rfl, hb.frame _, fun h => by cases h⟩
theorem over : Rows.buffersTwiceRow.holds Try.pinned (OpenSpec.ofChange Rows.buffersTwiceSpec) :=
  OpenClaim.holds_of_wide 4 Try.f4 rfl rfl rfl rfl rfl rfl rfl ⟨rfl, rfl, rfl, rfl, rfl⟩ rfl rfl rfl rfl rfl (by kernel_rfl) Try.func4 (by kernel_rfl)
    (of_decide_eq_true (by kernel_rfl)) (by unfold Func.isWrapper; first | (rw [if_pos (by decide +kernel)]; kernel_rfl) | (rw [if_neg (by decide +kernel)]; exact ⟨rfl, rfl⟩))
    (fun os started H enc _ => lifted os started H enc)
/-- THE STATEMENT. -/
theorem proved : Rows.BuffersTwiceSaid := over
#print axioms proved
end Go.Proofs.Ytkgfoiinbnhpbaa.buffersTwice
