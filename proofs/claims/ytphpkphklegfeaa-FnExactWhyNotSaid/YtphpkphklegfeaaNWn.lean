/-
  The law FnExactWhyNot returns true at every input and leaves its arguments as they were: the program answers as the reference does. No conditions.
-/
import Derived.Test.YtphpkphklegfeaaMWn
import Derived.Test.YtphpkphklegfeaaRows
import Derived.Test.YtphpkphklegfeaaT0
set_option linter.unusedVariables false
set_option linter.unusedSimpArgs false
set_option maxRecDepth 100000
namespace Go.Proofs.Ytphpkphklegfeaa.K
noncomputable section
open Go.ChangeShapes Go.WideShapes Go.ChangeAt Go.RowKit
theorem and_t {a b : Bool} (ha : a = true) (hb : b = true) : (a && b) = true := by rw [ha, hb]; rfl
theorem clo6 : Try.prog.closure 6 = [6, 7, 21, 22, 54, 74, 23, 24, 8, 25, 26, 55, 10, 33, 34, 58, 78, 97, 35, 36, 11, 37, 59, 38, 60, 19, 9, 27, 56, 28, 75, 95, 96, 76, 29, 30, 31, 47, 57, 77, 32, 52, 72, 92, 103, 50, 20, 12, 39, 61, 48, 79, 98, 93, 71, 89, 80, 99, 90, 102, 40, 62, 81, 100, 63, 82, 83, 84, 64, 49, 69, 70, 91, 85, 65, 86, 87, 53, 73, 94, 105, 104, 107, 106, 13, 41, 42, 66, 88, 101, 43, 44, 14, 45, 67, 46, 68] := closure_eq leadsTbl (by as_aux_lemma => kernel_rfl)
theorem inP6 : Try.prog.inPlace 6 = Rows.fnExactWhyNotRow.inPlace := by unfold Program.inPlace; rw [clo6]; kernel_rfl
theorem unf6 : Try.prog.unfollowed 6 = true := by unfold Program.unfollowed; rw [clo6]; kernel_rfl
theorem var6 : Try.prog.varsNamed 6 = Rows.fnExactWhyNotRow.named := by unfold Program.varsNamed; rw [clo6]; kernel_rfl
theorem rec6 : Try.prog.recurses 6 = true := yes_recursion unf6
theorem mak6 : Try.prog.make = some Rows.fnExactWhyNotRow.make := cut_make hed
set_option maxHeartbeats 4000000 in
theorem facts6 : joinedFacts Try.prog 6 Try.f6 Rows.fnExactWhyNotSpec Rows.fnExactWhyNotRow = true := by
  unfold joinedFacts
  rw [inP6, unf6, var6, rec6, mayE, lifF, mak6]
  refine and_t (and_t (and_t (and_t (and_t (and_t (and_t (and_t (and_t (and_t (and_t (and_t (and_t (and_t (and_t (and_t (and_t (and_t (and_t (and_t (and_t (and_t (and_t (and_t (and_t (and_t (and_t (and_t (and_t (and_t (and_t (?_) ?_) ?_) ?_) ?_) ?_) ?_) ?_) ?_) ?_) ?_) ?_) ?_) ?_) ?_) ?_) ?_) ?_) ?_) ?_) ?_) ?_) ?_) ?_) ?_) ?_) ?_) ?_) ?_) ?_) ?_) ?_ <;> as_aux_lemma => kernel_rfl
set_option maxHeartbeats 4000000 in
theorem over6 : Rows.fnExactWhyNotRow.holds Try.pinned (OpenSpec.ofChange Rows.fnExactWhyNotSpec) :=
  OpenClaim.holds_of_wide 6 Try.f6 rfl rfl rfl rfl rfl rfl rfl ⟨rfl, rfl, rfl, rfl, rfl⟩ rfl rfl rfl rfl rfl (by as_aux_lemma => kernel_rfl) Try.func6 facts6
    (by as_aux_lemma => exact of_decide_eq_true (by kernel_rfl)) (by as_aux_lemma => unfold Func.isWrapper; first | (rw [if_pos (by decide +kernel)]; kernel_rfl) | (rw [if_neg (by decide +kernel)]; exact ⟨rfl, rfl⟩))
    (fun os started H enc _ => lifted6 os started H enc)
end
end Go.Proofs.Ytphpkphklegfeaa.K
namespace Go.Proofs.Ytphpkphklegfeaa
/-- The row. -/
theorem fnExactWhyNot_holds : Rows.FnExactWhyNotSaid := K.over6
#print axioms fnExactWhyNot_holds
end Go.Proofs.Ytphpkphklegfeaa
