/-
  The law FnExactFrameEventOk returns true at every input and leaves its arguments as they were: the program answers as the reference does. No conditions.
-/
import Derived.Test.YtkfekjcahepfnaaMFe
import Derived.Test.YtkfekjcahepfnaaRows
import Derived.Test.YtkfekjcahepfnaaT0
set_option linter.unusedVariables false
set_option linter.unusedSimpArgs false
set_option maxRecDepth 100000
namespace Go.Proofs.Ytkfekjcahepfnaa.K
noncomputable section
open Go.ChangeShapes Go.WideShapes Go.ChangeAt Go.RowKit
theorem and_t {a b : Bool} (ha : a = true) (hb : b = true) : (a && b) = true := by rw [ha, hb]; rfl
theorem clo9 : Try.prog.closure 9 = [9, 51, 138, 166, 266, 324, 140, 139, 53, 97, 170, 269, 325, 350, 144, 143, 58, 57, 175, 52, 167, 168, 267, 268, 169, 176, 59, 177, 54, 171, 172, 270, 161, 260, 271, 173, 273, 272, 326, 178, 56, 28, 174, 274, 327, 351, 148, 133] := closure_eq leadsTbl (by as_aux_lemma => kernel_rfl)
theorem inP9 : Try.prog.inPlace 9 = Rows.fnExactFrameEventOkRow.inPlace := by unfold Program.inPlace; rw [clo9]; kernel_rfl
theorem unf9 : Try.prog.unfollowed 9 = true := by unfold Program.unfollowed; rw [clo9]; kernel_rfl
theorem var9 : Try.prog.varsNamed 9 = Rows.fnExactFrameEventOkRow.named := by unfold Program.varsNamed; rw [clo9]; kernel_rfl
theorem rec9 : Try.prog.recurses 9 = true := yes_recursion unf9
theorem mak9 : Try.prog.make = some Rows.fnExactFrameEventOkRow.make := cut_make hed
set_option maxHeartbeats 4000000 in
theorem facts9 : joinedFacts Try.prog 9 Try.f9 Rows.fnExactFrameEventOkSpec Rows.fnExactFrameEventOkRow = true := by
  unfold joinedFacts
  rw [inP9, unf9, var9, rec9, mayE, lifF, mak9]
  refine and_t (and_t (and_t (and_t (and_t (and_t (and_t (and_t (and_t (and_t (and_t (and_t (and_t (and_t (and_t (and_t (and_t (and_t (and_t (and_t (and_t (and_t (and_t (and_t (and_t (and_t (and_t (and_t (and_t (and_t (and_t (?_) ?_) ?_) ?_) ?_) ?_) ?_) ?_) ?_) ?_) ?_) ?_) ?_) ?_) ?_) ?_) ?_) ?_) ?_) ?_) ?_) ?_) ?_) ?_) ?_) ?_) ?_) ?_) ?_) ?_) ?_) ?_ <;> as_aux_lemma => kernel_rfl
set_option maxHeartbeats 4000000 in
theorem over9 : Rows.fnExactFrameEventOkRow.holds Try.pinned (OpenSpec.ofChange Rows.fnExactFrameEventOkSpec) :=
  OpenClaim.holds_of_wide 9 Try.f9 rfl rfl rfl rfl rfl rfl rfl ⟨rfl, rfl, rfl, rfl, rfl⟩ rfl rfl rfl rfl rfl (by as_aux_lemma => kernel_rfl) Try.func9 facts9
    (by as_aux_lemma => exact of_decide_eq_true (by kernel_rfl)) (by as_aux_lemma => unfold Func.isWrapper; first | (rw [if_pos (by decide +kernel)]; kernel_rfl) | (rw [if_neg (by decide +kernel)]; exact ⟨rfl, rfl⟩))
    (fun os started H enc _ => lifted9 os started H enc)
end
end Go.Proofs.Ytkfekjcahepfnaa.K
namespace Go.Proofs.Ytkfekjcahepfnaa
/-- The row. -/
theorem fnExactFrameEventOk_holds : Rows.FnExactFrameEventOkSaid := K.over9
#print axioms fnExactFrameEventOk_holds
end Go.Proofs.Ytkfekjcahepfnaa
