/-
  The law FnExactLockedBy returns true at every input and leaves its arguments as they were: the program answers as the reference does. No conditions.
-/
import Derived.Test.YtphpkphklegfeaaMLb
import Derived.Test.YtphpkphklegfeaaRows
import Derived.Test.YtphpkphklegfeaaT0
set_option linter.unusedVariables false
set_option linter.unusedSimpArgs false
set_option maxRecDepth 100000
namespace Go.Proofs.Ytphpkphklegfeaa.K
noncomputable section
open Go.ChangeShapes Go.WideShapes Go.ChangeAt Go.RowKit
theorem and_t {a b : Bool} (ha : a = true) (hb : b = true) : (a && b) = true := by rw [ha, hb]; rfl
theorem clo5 : Try.prog.closure 5 = [5, 7, 21, 22, 54, 74, 23, 24, 8, 25, 26, 55, 10, 33, 34, 58, 78, 97, 35, 36, 11, 37, 59, 38, 60, 17, 9, 27, 56, 28, 75, 95, 96, 76, 29, 30, 31, 47, 57, 77, 32, 50, 18, 12, 39, 61, 48, 79, 98, 93, 71, 89, 80, 99, 90, 102, 40, 62, 81, 100, 63, 82, 83, 84, 64, 49, 69, 70, 91, 85, 65, 86, 87, 51, 13, 41, 42, 66, 88, 101, 43, 44, 14, 45, 67, 46, 68] := closure_eq leadsTbl (by as_aux_lemma => kernel_rfl)
theorem inP5 : Try.prog.inPlace 5 = Rows.fnExactLockedByRow.inPlace := by unfold Program.inPlace; rw [clo5]; kernel_rfl
theorem unf5 : Try.prog.unfollowed 5 = true := by unfold Program.unfollowed; rw [clo5]; kernel_rfl
theorem var5 : Try.prog.varsNamed 5 = Rows.fnExactLockedByRow.named := by unfold Program.varsNamed; rw [clo5]; kernel_rfl
theorem rec5 : Try.prog.recurses 5 = true := yes_recursion unf5
theorem mak5 : Try.prog.make = some Rows.fnExactLockedByRow.make := cut_make hed
set_option maxHeartbeats 4000000 in
theorem facts5 : joinedFacts Try.prog 5 Try.f5 Rows.fnExactLockedBySpec Rows.fnExactLockedByRow = true := by
  unfold joinedFacts
  rw [inP5, unf5, var5, rec5, mayE, lifF, mak5]
  refine and_t (and_t (and_t (and_t (and_t (and_t (and_t (and_t (and_t (and_t (and_t (and_t (and_t (and_t (and_t (and_t (and_t (and_t (and_t (and_t (and_t (and_t (and_t (and_t (and_t (and_t (and_t (and_t (and_t (and_t (and_t (?_) ?_) ?_) ?_) ?_) ?_) ?_) ?_) ?_) ?_) ?_) ?_) ?_) ?_) ?_) ?_) ?_) ?_) ?_) ?_) ?_) ?_) ?_) ?_) ?_) ?_) ?_) ?_) ?_) ?_) ?_) ?_ <;> as_aux_lemma => kernel_rfl
set_option maxHeartbeats 4000000 in
theorem over5 : Rows.fnExactLockedByRow.holds Try.pinned (OpenSpec.ofChange Rows.fnExactLockedBySpec) :=
  OpenClaim.holds_of_wide 5 Try.f5 rfl rfl rfl rfl rfl rfl rfl ⟨rfl, rfl, rfl, rfl, rfl⟩ rfl rfl rfl rfl rfl (by as_aux_lemma => kernel_rfl) Try.func5 facts5
    (by as_aux_lemma => exact of_decide_eq_true (by kernel_rfl)) (by as_aux_lemma => unfold Func.isWrapper; first | (rw [if_pos (by decide +kernel)]; kernel_rfl) | (rw [if_neg (by decide +kernel)]; exact ⟨rfl, rfl⟩))
    (fun os started H enc _ => lifted5 os started H enc)
end
end Go.Proofs.Ytphpkphklegfeaa.K
namespace Go.Proofs.Ytphpkphklegfeaa
/-- The row. -/
theorem fnExactLockedBy_holds : Rows.FnExactLockedBySaid := K.over5
#print axioms fnExactLockedBy_holds
end Go.Proofs.Ytphpkphklegfeaa
