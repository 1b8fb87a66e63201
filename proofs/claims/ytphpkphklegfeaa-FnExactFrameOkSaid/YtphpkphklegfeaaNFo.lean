/-
  The law FnExactFrameOk returns true at every input and leaves its arguments as they were: the program answers as the reference does. No conditions.
-/
import Derived.Test.YtphpkphklegfeaaMFo
import Derived.Test.YtphpkphklegfeaaRows
import Derived.Test.YtphpkphklegfeaaT0
set_option linter.unusedVariables false
set_option linter.unusedSimpArgs false
set_option maxRecDepth 100000
namespace Go.Proofs.Ytphpkphklegfeaa.K
noncomputable section
open Go.ChangeShapes Go.WideShapes Go.ChangeAt Go.RowKit
theorem and_t {a b : Bool} (ha : a = true) (hb : b = true) : (a && b) = true := by rw [ha, hb]; rfl
theorem clo3 : Try.prog.closure 3 = [3, 7, 21, 22, 54, 74, 23, 24, 8, 25, 26, 55, 10, 33, 34, 58, 78, 97, 35, 36, 11, 37, 59, 38, 60, 9, 27, 56, 28, 75, 95, 96, 76, 29, 30, 31, 47, 57, 77, 32, 12, 39, 61, 48, 79, 98, 93, 71, 89, 80, 99, 90, 102, 40, 62, 81, 100, 63, 82, 83, 84, 64, 49, 69, 70, 91, 85, 65, 86, 87, 13, 41, 42, 66, 88, 101, 43, 44, 14, 45, 67, 46, 68] := closure_eq leadsTbl (by as_aux_lemma => kernel_rfl)
theorem inP3 : Try.prog.inPlace 3 = Rows.fnExactFrameOkRow.inPlace := by unfold Program.inPlace; rw [clo3]; kernel_rfl
theorem unf3 : Try.prog.unfollowed 3 = true := by unfold Program.unfollowed; rw [clo3]; kernel_rfl
theorem var3 : Try.prog.varsNamed 3 = Rows.fnExactFrameOkRow.named := by unfold Program.varsNamed; rw [clo3]; kernel_rfl
theorem rec3 : Try.prog.recurses 3 = true := yes_recursion unf3
theorem mak3 : Try.prog.make = some Rows.fnExactFrameOkRow.make := cut_make hed
set_option maxHeartbeats 4000000 in
theorem facts3 : joinedFacts Try.prog 3 Try.f3 Rows.fnExactFrameOkSpec Rows.fnExactFrameOkRow = true := by
  unfold joinedFacts
  rw [inP3, unf3, var3, rec3, mayE, lifF, mak3]
  refine and_t (and_t (and_t (and_t (and_t (and_t (and_t (and_t (and_t (and_t (and_t (and_t (and_t (and_t (and_t (and_t (and_t (and_t (and_t (and_t (and_t (and_t (and_t (and_t (and_t (and_t (and_t (and_t (and_t (and_t (and_t (?_) ?_) ?_) ?_) ?_) ?_) ?_) ?_) ?_) ?_) ?_) ?_) ?_) ?_) ?_) ?_) ?_) ?_) ?_) ?_) ?_) ?_) ?_) ?_) ?_) ?_) ?_) ?_) ?_) ?_) ?_) ?_ <;> as_aux_lemma => kernel_rfl
set_option maxHeartbeats 4000000 in
theorem over3 : Rows.fnExactFrameOkRow.holds Try.pinned (OpenSpec.ofChange Rows.fnExactFrameOkSpec) :=
  OpenClaim.holds_of_wide 3 Try.f3 rfl rfl rfl rfl rfl rfl rfl ⟨rfl, rfl, rfl, rfl, rfl⟩ rfl rfl rfl rfl rfl (by as_aux_lemma => kernel_rfl) Try.func3 facts3
    (by as_aux_lemma => exact of_decide_eq_true (by kernel_rfl)) (by as_aux_lemma => unfold Func.isWrapper; first | (rw [if_pos (by decide +kernel)]; kernel_rfl) | (rw [if_neg (by decide +kernel)]; exact ⟨rfl, rfl⟩))
    (fun os started H enc _ => lifted3 os started H enc)
end
end Go.Proofs.Ytphpkphklegfeaa.K
namespace Go.Proofs.Ytphpkphklegfeaa
/-- The row. -/
theorem fnExactFrameOk_holds : Rows.FnExactFrameOkSaid := K.over3
#print axioms fnExactFrameOk_holds
end Go.Proofs.Ytphpkphklegfeaa
