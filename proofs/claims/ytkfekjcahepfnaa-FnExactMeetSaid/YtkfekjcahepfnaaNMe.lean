/-
  The law FnExactMeet returns true at every input and leaves its arguments as they were: the program answers as the reference does. No conditions.
-/
import Derived.Test.YtkfekjcahepfnaaMMe
import Derived.Test.YtkfekjcahepfnaaRows
import Derived.Test.YtkfekjcahepfnaaT0
set_option linter.unusedVariables false
set_option linter.unusedSimpArgs false
set_option maxRecDepth 100000
namespace Go.Proofs.Ytkfekjcahepfnaa.K
noncomputable section
open Go.ChangeShapes Go.WideShapes Go.ChangeAt Go.RowKit
theorem and_t {a b : Bool} (ha : a = true) (hb : b = true) : (a && b) = true := by rw [ha, hb]; rfl
theorem clo14 : Try.prog.closure 14 = [14, 77, 193, 282, 194, 283, 328, 78, 150, 80, 197, 286, 198, 287, 333, 353, 81, 100, 156, 256, 88, 79, 195, 284, 329, 330, 331, 352, 332, 196, 220, 221, 222, 305, 285, 224, 306, 307, 206, 298, 205, 89, 199, 288, 334, 335, 200, 226, 171, 289, 291, 337, 290, 336, 293, 292, 338, 294, 207, 232, 297, 340, 160, 83, 201, 295, 202, 296, 339, 354, 84, 87, 163, 263] := closure_eq leadsTbl (by as_aux_lemma => kernel_rfl)
theorem inP14 : Try.prog.inPlace 14 = Rows.fnExactMeetRow.inPlace := by unfold Program.inPlace; rw [clo14]; kernel_rfl
theorem unf14 : Try.prog.unfollowed 14 = false := by unfold Program.unfollowed; rw [clo14]; kernel_rfl
theorem var14 : Try.prog.varsNamed 14 = Rows.fnExactMeetRow.named := by unfold Program.varsNamed; rw [clo14]; kernel_rfl
theorem rec14 : Try.prog.recurses 14 = false := no_recursion leadsTbl (rk := [0, 0, 0, 0, 0, 0, 0, 0, 0, 0, 0, 0, 0, 0, 8, 0, 0, 0, 0, 0, 0, 0, 0, 0, 0, 0, 0, 0, 0, 0, 0, 0, 0, 0, 0, 0, 0, 0, 0, 0, 0, 0, 0, 0, 0, 0, 0, 0, 0, 0, 0, 0, 0, 0, 0, 0, 0, 0, 0, 0, 0, 0, 0, 0, 0, 0, 0, 0, 0, 0, 0, 0, 0, 0, 0, 0, 0, 4, 2, 6, 5, 3, 0, 5, 3, 0, 0, 1, 7, 5, 0, 0, 0, 0, 0, 0, 0, 0, 0, 0, 1, 0, 0, 0, 0, 0, 0, 0, 0, 0, 0, 0, 0, 0, 0, 0, 0, 0, 0, 0, 0, 0, 0, 0, 0, 0, 0, 0, 0, 0, 0, 0, 0, 0, 0, 0, 0, 0, 0, 0, 0, 0, 0, 0, 0, 0, 0, 0, 0, 0, 1, 0, 0, 0, 0, 0, 2, 0, 0, 0, 1, 0, 0, 2, 0, 0, 0, 0, 0, 0, 0, 1, 0, 0, 0, 0, 0, 0, 0, 0, 0, 0, 0, 0, 0, 0, 0, 0, 0, 0, 0, 0, 0, 2, 3, 5, 3, 2, 4, 4, 3, 2, 4, 0, 0, 1, 3, 4, 0, 0, 0, 0, 0, 0, 0, 0, 0, 0, 0, 0, 2, 1, 2, 0, 1, 0, 2, 0, 0, 0, 0, 0, 3, 0, 0, 0, 0, 0, 0, 0, 0, 0, 0, 0, 0, 0, 0, 0, 0, 0, 0, 0, 0, 0, 0, 0, 1, 0, 0, 0, 0, 0, 0, 1, 0, 0, 0, 0, 0, 0, 0, 0, 0, 0, 0, 0, 0, 0, 0, 0, 0, 0, 1, 2, 4, 2, 1, 3, 3, 1, 2, 2, 2, 2, 1, 1, 3, 2, 1, 0, 0, 0, 0, 0, 0, 1, 1, 1, 0, 0, 0, 0, 0, 0, 0, 0, 0, 0, 0, 0, 0, 0, 0, 0, 0, 0, 0, 0, 1, 1, 1, 3, 1, 2, 2, 1, 1, 1, 1, 2, 1, 0, 0, 0, 0, 0, 0, 0, 0, 0, 0, 0, 2, 1, 1, 0, 0, 0, 0, 0, 0, 0, 0, 0, 0, 0, 0, 0, 0, 0, 0, 0, 0, 0, 0, 0, 0]) clo14 unf14 (by as_aux_lemma => kernel_rfl)
theorem mak14 : Try.prog.make = some Rows.fnExactMeetRow.make := cut_make hed
set_option maxHeartbeats 4000000 in
theorem facts14 : joinedFacts Try.prog 14 Try.f14 Rows.fnExactMeetSpec Rows.fnExactMeetRow = true := by
  unfold joinedFacts
  rw [inP14, unf14, var14, rec14, mayE, lifF, mak14]
  refine and_t (and_t (and_t (and_t (and_t (and_t (and_t (and_t (and_t (and_t (and_t (and_t (and_t (and_t (and_t (and_t (and_t (and_t (and_t (and_t (and_t (and_t (and_t (and_t (and_t (and_t (and_t (and_t (and_t (and_t (and_t (?_) ?_) ?_) ?_) ?_) ?_) ?_) ?_) ?_) ?_) ?_) ?_) ?_) ?_) ?_) ?_) ?_) ?_) ?_) ?_) ?_) ?_) ?_) ?_) ?_) ?_) ?_) ?_) ?_) ?_) ?_) ?_ <;> as_aux_lemma => kernel_rfl
set_option maxHeartbeats 4000000 in
theorem over14 : Rows.fnExactMeetRow.holds Try.pinned (OpenSpec.ofChange Rows.fnExactMeetSpec) :=
  OpenClaim.holds_of_wide 14 Try.f14 rfl rfl rfl rfl rfl rfl rfl ⟨rfl, rfl, rfl, rfl, rfl⟩ rfl rfl rfl rfl rfl (by as_aux_lemma => kernel_rfl) Try.func14 facts14
    (by as_aux_lemma => exact of_decide_eq_true (by kernel_rfl)) (by as_aux_lemma => unfold Func.isWrapper; first | (rw [if_pos (by decide +kernel)]; kernel_rfl) | (rw [if_neg (by decide +kernel)]; exact ⟨rfl, rfl⟩))
    (fun os started H enc _ => lifted14 os started H enc)
end
end Go.Proofs.Ytkfekjcahepfnaa.K
namespace Go.Proofs.Ytkfekjcahepfnaa
/-- The row. -/
theorem fnExactMeet_holds : Rows.FnExactMeetSaid := K.over14
#print axioms fnExactMeet_holds
end Go.Proofs.Ytkfekjcahepfnaa
