/-
  The law FnExactBeginFrame returns true at every input and leaves its arguments as they were: the program answers as the reference does. No conditions.
-/
import Derived.Test.YtkfekjcahepfnaaMBf
import Derived.Test.YtkfekjcahepfnaaRows
import Derived.Test.YtkfekjcahepfnaaT0
set_option linter.unusedVariables false
set_option linter.unusedSimpArgs false
set_option maxRecDepth 100000
namespace Go.Proofs.Ytkfekjcahepfnaa.K
noncomputable section
open Go.ChangeShapes Go.WideShapes Go.ChangeAt Go.RowKit
theorem and_t {a b : Bool} (ha : a = true) (hb : b = true) : (a && b) = true := by rw [ha, hb]; rfl
theorem clo15 : Try.prog.closure 15 = [15, 51, 138, 166, 266, 324, 140, 139, 53, 97, 170, 269, 325, 350, 144, 143, 90, 175, 52, 167, 168, 267, 268, 169, 91, 177, 54, 171, 172, 270, 161, 260, 271, 173, 273, 272, 326, 208, 92, 133, 209, 299, 210, 300, 56, 28, 174, 274, 327, 351, 148, 93, 31, 211, 301, 149, 135, 94, 212, 213, 95, 137, 214, 215] := closure_eq leadsTbl (by as_aux_lemma => kernel_rfl)
theorem inP15 : Try.prog.inPlace 15 = Rows.fnExactBeginFrameRow.inPlace := by unfold Program.inPlace; rw [clo15]; kernel_rfl
theorem unf15 : Try.prog.unfollowed 15 = true := by unfold Program.unfollowed; rw [clo15]; kernel_rfl
theorem var15 : Try.prog.varsNamed 15 = Rows.fnExactBeginFrameRow.named := by unfold Program.varsNamed; rw [clo15]; kernel_rfl
theorem rec15 : Try.prog.recurses 15 = true := yes_recursion unf15
theorem mak15 : Try.prog.make = some Rows.fnExactBeginFrameRow.make := cut_make hed
set_option maxHeartbeats 4000000 in
theorem facts15 : joinedFacts Try.prog 15 Try.f15 Rows.fnExactBeginFrameSpec Rows.fnExactBeginFrameRow = true := by
  unfold joinedFacts
  rw [inP15, unf15, var15, rec15, mayE, lifF, mak15]
  refine and_t (and_t (and_t (and_t (and_t (and_t (and_t (and_t (and_t (and_t (and_t (and_t (and_t (and_t (and_t (and_t (and_t (and_t (and_t (and_t (and_t (and_t (and_t (and_t (and_t (and_t (and_t (and_t (and_t (and_t (and_t (?_) ?_) ?_) ?_) ?_) ?_) ?_) ?_) ?_) ?_) ?_) ?_) ?_) ?_) ?_) ?_) ?_) ?_) ?_) ?_) ?_) ?_) ?_) ?_) ?_) ?_) ?_) ?_) ?_) ?_) ?_) ?_ <;> as_aux_lemma => kernel_rfl
set_option maxHeartbeats 4000000 in
theorem over15 : Rows.fnExactBeginFrameRow.holds Try.pinned (OpenSpec.ofChange Rows.fnExactBeginFrameSpec) :=
  OpenClaim.holds_of_wide 15 Try.f15 rfl rfl rfl rfl rfl rfl rfl ⟨rfl, rfl, rfl, rfl, rfl⟩ rfl rfl rfl rfl rfl (by as_aux_lemma => kernel_rfl) Try.func15 facts15
    (by as_aux_lemma => exact of_decide_eq_true (by kernel_rfl)) (by as_aux_lemma => unfold Func.isWrapper; first | (rw [if_pos (by decide +kernel)]; kernel_rfl) | (rw [if_neg (by decide +kernel)]; exact ⟨rfl, rfl⟩))
    (fun os started H enc _ => lifted15 os started H enc)
end
end Go.Proofs.Ytkfekjcahepfnaa.K
namespace Go.Proofs.Ytkfekjcahepfnaa
/-- The row. -/
theorem fnExactBeginFrame_holds : Rows.FnExactBeginFrameSaid := K.over15
#print axioms fnExactBeginFrame_holds
end Go.Proofs.Ytkfekjcahepfnaa
