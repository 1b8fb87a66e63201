/-
  The law FnExactWants returns true at every input and leaves its arguments as they were: the program answers as the reference does. No conditions.
-/
import Derived.Test.YtkfekjcahepfnaaMWa
import Derived.Test.YtkfekjcahepfnaaRows
import Derived.Test.YtkfekjcahepfnaaT0
set_option linter.unusedVariables false
set_option linter.unusedSimpArgs false
set_option maxRecDepth 100000
namespace Go.Proofs.Ytkfekjcahepfnaa.K
noncomputable section
open Go.ChangeShapes Go.WideShapes Go.ChangeAt Go.RowKit
theorem and_t {a b : Bool} (ha : a = true) (hb : b = true) : (a && b) = true := by rw [ha, hb]; rfl
theorem clo6 : Try.prog.closure 6 = [6, 38, 138, 139, 140, 40, 97, 143, 144, 44, 141, 253, 142, 254, 255, 45, 145, 171, 147, 146, 28, 42, 133, 148, 43, 31, 135, 149, 32] := closure_eq leadsTbl (by as_aux_lemma => kernel_rfl)
theorem inP6 : Try.prog.inPlace 6 = Rows.fnExactWantsRow.inPlace := by unfold Program.inPlace; rw [clo6]; kernel_rfl
theorem unf6 : Try.prog.unfollowed 6 = false := by unfold Program.unfollowed; rw [clo6]; kernel_rfl
theorem var6 : Try.prog.varsNamed 6 = Rows.fnExactWantsRow.named := by unfold Program.varsNamed; rw [clo6]; kernel_rfl
theorem rec6 : Try.prog.recurses 6 = false := no_recursion leadsTbl (rk := [0, 0, 0, 0, 0, 0, 4, 0, 0, 0, 0, 0, 0, 0, 0, 0, 0, 0, 0, 0, 0, 0, 0, 0, 0, 0, 0, 0, 1, 0, 0, 1, 1, 0, 0, 0, 0, 0, 3, 0, 3, 0, 3, 3, 3, 3, 0, 0, 0, 0, 0, 0, 0, 0, 0, 0, 0, 0, 0, 0, 0, 0, 0, 0, 0, 0, 0, 0, 0, 0, 0, 0, 0, 0, 0, 0, 0, 0, 0, 0, 0, 0, 0, 0, 0, 0, 0, 0, 0, 0, 0, 0, 0, 0, 0, 0, 0, 1, 0, 0, 0, 0, 0, 0, 0, 0, 0, 0, 0, 0, 0, 0, 0, 0, 0, 0, 0, 0, 0, 0, 0, 0, 0, 0, 0, 0, 0, 0, 0, 0, 0, 0, 0, 1, 0, 1, 0, 0, 1, 1, 2, 2, 2, 1, 2, 2, 1, 2, 2, 2, 0, 0, 0, 0, 0, 0, 0, 0, 0, 0, 0, 0, 0, 0, 0, 0, 0, 0, 0, 0, 0, 1, 0, 0, 0, 0, 0, 0, 0, 0, 0, 0, 0, 0, 0, 0, 0, 0, 0, 0, 0, 0, 0, 0, 0, 0, 0, 0, 0, 0, 0, 0, 0, 0, 0, 0, 0, 0, 0, 0, 0, 0, 0, 0, 0, 0, 0, 0, 0, 0, 0, 0, 0, 0, 0, 0, 0, 0, 0, 0, 0, 0, 0, 0, 0, 0, 0, 0, 0, 0, 0, 0, 0, 0, 0, 0, 0, 0, 0, 0, 0, 0, 0, 1, 1, 1, 0, 0, 0, 0, 0, 0, 0, 0, 0, 0, 0, 0, 0, 0, 0, 0, 0, 0, 0, 0, 0, 0, 0, 0, 0, 0, 0, 0, 0, 0, 0, 0, 0, 0, 0, 0, 0, 0, 0, 0, 0, 0, 0, 0, 0, 0, 0, 0, 0, 0, 0, 0, 0, 0, 0, 0, 0, 0, 0, 0, 0, 0, 0, 0, 0, 0, 0, 0, 0, 0, 0, 0, 0, 0, 0, 0, 0, 0, 0, 0, 0, 0, 0, 0, 0, 0, 0, 0, 0, 0, 0, 0, 0, 0, 0, 0, 0, 0, 0, 0, 0, 0, 0, 0, 0, 0, 0, 0, 0, 0, 0, 0, 0, 0, 0, 0, 0, 0, 0, 0, 0]) clo6 unf6 (by as_aux_lemma => kernel_rfl)
theorem mak6 : Try.prog.make = some Rows.fnExactWantsRow.make := cut_make hed
set_option maxHeartbeats 4000000 in
theorem facts6 : joinedFacts Try.prog 6 Try.f6 Rows.fnExactWantsSpec Rows.fnExactWantsRow = true := by
  unfold joinedFacts
  rw [inP6, unf6, var6, rec6, mayE, lifF, mak6]
  refine and_t (and_t (and_t (and_t (and_t (and_t (and_t (and_t (and_t (and_t (and_t (and_t (and_t (and_t (and_t (and_t (and_t (and_t (and_t (and_t (and_t (and_t (and_t (and_t (and_t (and_t (and_t (and_t (and_t (and_t (and_t (?_) ?_) ?_) ?_) ?_) ?_) ?_) ?_) ?_) ?_) ?_) ?_) ?_) ?_) ?_) ?_) ?_) ?_) ?_) ?_) ?_) ?_) ?_) ?_) ?_) ?_) ?_) ?_) ?_) ?_) ?_) ?_ <;> as_aux_lemma => kernel_rfl
set_option maxHeartbeats 4000000 in
theorem over6 : Rows.fnExactWantsRow.holds Try.pinned (OpenSpec.ofChange Rows.fnExactWantsSpec) :=
  OpenClaim.holds_of_wide 6 Try.f6 rfl rfl rfl rfl rfl rfl rfl ⟨rfl, rfl, rfl, rfl, rfl⟩ rfl rfl rfl rfl rfl (by as_aux_lemma => kernel_rfl) Try.func6 facts6
    (by as_aux_lemma => exact of_decide_eq_true (by kernel_rfl)) (by as_aux_lemma => unfold Func.isWrapper; first | (rw [if_pos (by decide +kernel)]; kernel_rfl) | (rw [if_neg (by decide +kernel)]; exact ⟨rfl, rfl⟩))
    (fun os started H enc _ => lifted6 os started H enc)
end
end Go.Proofs.Ytkfekjcahepfnaa.K
namespace Go.Proofs.Ytkfekjcahepfnaa
/-- The row. -/
theorem fnExactWants_holds : Rows.FnExactWantsSaid := K.over6
#print axioms fnExactWants_holds
end Go.Proofs.Ytkfekjcahepfnaa
