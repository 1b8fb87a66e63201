/-
  The law FnExactBeginCount returns true at every input and leaves its arguments as they were: the program answers as the reference does. No conditions.
-/
import Derived.Test.YtkfekjcahepfnaaMBc
import Derived.Test.YtkfekjcahepfnaaRows
import Derived.Test.YtkfekjcahepfnaaT0
set_option linter.unusedVariables false
set_option linter.unusedSimpArgs false
set_option maxRecDepth 100000
namespace Go.Proofs.Ytkfekjcahepfnaa.K
noncomputable section
open Go.ChangeShapes Go.WideShapes Go.ChangeAt Go.RowKit
theorem and_t {a b : Bool} (ha : a = true) (hb : b = true) : (a && b) = true := by rw [ha, hb]; rfl
theorem clo4 : Try.prog.closure 4 = [4, 24, 125, 26, 128, 249, 33, 126, 127, 34, 129, 250, 35, 132, 252, 133, 29, 130, 251, 30, 131, 36, 134, 135, 37, 136, 137] := closure_eq leadsTbl (by as_aux_lemma => kernel_rfl)
theorem inP4 : Try.prog.inPlace 4 = Rows.fnExactBeginCountRow.inPlace := by unfold Program.inPlace; rw [clo4]; kernel_rfl
theorem unf4 : Try.prog.unfollowed 4 = true := by unfold Program.unfollowed; rw [clo4]; kernel_rfl
theorem var4 : Try.prog.varsNamed 4 = Rows.fnExactBeginCountRow.named := by unfold Program.varsNamed; rw [clo4]; kernel_rfl
theorem rec4 : Try.prog.recurses 4 = true := yes_recursion unf4
theorem mak4 : Try.prog.make = some Rows.fnExactBeginCountRow.make := cut_make hed
set_option maxHeartbeats 4000000 in
theorem facts4 : joinedFacts Try.prog 4 Try.f4 Rows.fnExactBeginCountSpec Rows.fnExactBeginCountRow = true := by
  unfold joinedFacts
  rw [inP4, unf4, var4, rec4, mayE, lifF, mak4]
  refine and_t (and_t (and_t (and_t (and_t (and_t (and_t (and_t (and_t (and_t (and_t (and_t (and_t (and_t (and_t (and_t (and_t (and_t (and_t (and_t (and_t (and_t (and_t (and_t (and_t (and_t (and_t (and_t (and_t (and_t (and_t (?_) ?_) ?_) ?_) ?_) ?_) ?_) ?_) ?_) ?_) ?_) ?_) ?_) ?_) ?_) ?_) ?_) ?_) ?_) ?_) ?_) ?_) ?_) ?_) ?_) ?_) ?_) ?_) ?_) ?_) ?_) ?_ <;> as_aux_lemma => kernel_rfl
set_option maxHeartbeats 4000000 in
theorem over4 : Rows.fnExactBeginCountRow.holds Try.pinned (OpenSpec.ofChange Rows.fnExactBeginCountSpec) :=
  OpenClaim.holds_of_wide 4 Try.f4 rfl rfl rfl rfl rfl rfl rfl ⟨rfl, rfl, rfl, rfl, rfl⟩ rfl rfl rfl rfl rfl (by as_aux_lemma => kernel_rfl) Try.func4 facts4
    (by as_aux_lemma => exact of_decide_eq_true (by kernel_rfl)) (by as_aux_lemma => unfold Func.isWrapper; first | (rw [if_pos (by decide +kernel)]; kernel_rfl) | (rw [if_neg (by decide +kernel)]; exact ⟨rfl, rfl⟩))
    (fun os started H enc _ => lifted4 os started H enc)
end
end Go.Proofs.Ytkfekjcahepfnaa.K
namespace Go.Proofs.Ytkfekjcahepfnaa
/-- The row. -/
theorem fnExactBeginCount_holds : Rows.FnExactBeginCountSaid := K.over4
#print axioms fnExactBeginCount_holds
end Go.Proofs.Ytkfekjcahepfnaa
