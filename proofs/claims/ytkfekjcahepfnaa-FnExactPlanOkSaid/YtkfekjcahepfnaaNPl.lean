/-
  The law FnExactPlanOk returns true at every input and leaves its arguments as they were: the program answers as the reference does. No conditions.
-/
import Derived.Test.YtkfekjcahepfnaaMPl
import Derived.Test.YtkfekjcahepfnaaRows
import Derived.Test.YtkfekjcahepfnaaT0
set_option linter.unusedVariables false
set_option linter.unusedSimpArgs false
set_option maxRecDepth 100000
namespace Go.Proofs.Ytkfekjcahepfnaa.K
noncomputable section
open Go.ChangeShapes Go.WideShapes Go.ChangeAt Go.RowKit
theorem and_t {a b : Bool} (ha : a = true) (hb : b = true) : (a && b) = true := by rw [ha, hb]; rfl
theorem clo8 : Try.prog.closure 8 = [8, 51, 138, 166, 266, 324, 140, 139, 53, 97, 170, 269, 325, 350, 144, 143, 52, 167, 168, 267, 268, 169, 54, 171, 172, 270, 161, 260, 271, 173, 273, 272, 326, 55, 56, 28, 174, 274, 327, 351, 148, 133] := closure_eq leadsTbl (by as_aux_lemma => kernel_rfl)
theorem inP8 : Try.prog.inPlace 8 = Rows.fnExactPlanOkRow.inPlace := by unfold Program.inPlace; rw [clo8]; kernel_rfl
theorem unf8 : Try.prog.unfollowed 8 = true := by unfold Program.unfollowed; rw [clo8]; kernel_rfl
theorem var8 : Try.prog.varsNamed 8 = Rows.fnExactPlanOkRow.named := by unfold Program.varsNamed; rw [clo8]; kernel_rfl
theorem rec8 : Try.prog.recurses 8 = true := yes_recursion unf8
theorem mak8 : Try.prog.make = some Rows.fnExactPlanOkRow.make := cut_make hed
set_option maxHeartbeats 4000000 in
theorem facts8 : joinedFacts Try.prog 8 Try.f8 Rows.fnExactPlanOkSpec Rows.fnExactPlanOkRow = true := by
  unfold joinedFacts
  rw [inP8, unf8, var8, rec8, mayE, lifF, mak8]
  refine and_t (and_t (and_t (and_t (and_t (and_t (and_t (and_t (and_t (and_t (and_t (and_t (and_t (and_t (and_t (and_t (and_t (and_t (and_t (and_t (and_t (and_t (and_t (and_t (and_t (and_t (and_t (and_t (and_t (and_t (and_t (?_) ?_) ?_) ?_) ?_) ?_) ?_) ?_) ?_) ?_) ?_) ?_) ?_) ?_) ?_) ?_) ?_) ?_) ?_) ?_) ?_) ?_) ?_) ?_) ?_) ?_) ?_) ?_) ?_) ?_) ?_) ?_ <;> as_aux_lemma => kernel_rfl
set_option maxHeartbeats 4000000 in
theorem over8 : Rows.fnExactPlanOkRow.holds Try.pinned (OpenSpec.ofChange Rows.fnExactPlanOkSpec) :=
  OpenClaim.holds_of_wide 8 Try.f8 rfl rfl rfl rfl rfl rfl rfl ⟨rfl, rfl, rfl, rfl, rfl⟩ rfl rfl rfl rfl rfl (by as_aux_lemma => kernel_rfl) Try.func8 facts8
    (by as_aux_lemma => exact of_decide_eq_true (by kernel_rfl)) (by as_aux_lemma => unfold Func.isWrapper; first | (rw [if_pos (by decide +kernel)]; kernel_rfl) | (rw [if_neg (by decide +kernel)]; exact ⟨rfl, rfl⟩))
    (fun os started H enc _ => lifted8 os started H enc)
end
end Go.Proofs.Ytkfekjcahepfnaa.K
namespace Go.Proofs.Ytkfekjcahepfnaa
/-- The row. -/
theorem fnExactPlanOk_holds : Rows.FnExactPlanOkSaid := K.over8
#print axioms fnExactPlanOk_holds
end Go.Proofs.Ytkfekjcahepfnaa
