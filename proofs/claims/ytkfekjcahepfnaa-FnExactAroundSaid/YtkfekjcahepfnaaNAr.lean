/-
  The law FnExactAround returns true at every input and leaves its arguments as they were: the program answers as the reference does. No conditions.
-/
import Derived.Test.YtkfekjcahepfnaaMAr
import Derived.Test.YtkfekjcahepfnaaRows
import Derived.Test.YtkfekjcahepfnaaT0
set_option linter.unusedVariables false
set_option linter.unusedSimpArgs false
set_option maxRecDepth 100000
namespace Go.Proofs.Ytkfekjcahepfnaa.K
noncomputable section
open Go.ChangeShapes Go.WideShapes Go.ChangeAt Go.RowKit
theorem and_t {a b : Bool} (ha : a = true) (hb : b = true) : (a && b) = true := by rw [ha, hb]; rfl
theorem clo3 : Try.prog.closure 3 = [3, 24, 125, 26, 128, 249, 25, 126, 127, 27, 129, 250, 28, 29, 130, 251, 30, 131, 31, 32] := closure_eq leadsTbl (by as_aux_lemma => kernel_rfl)
theorem inP3 : Try.prog.inPlace 3 = Rows.fnExactAroundRow.inPlace := by unfold Program.inPlace; rw [clo3]; kernel_rfl
theorem unf3 : Try.prog.unfollowed 3 = true := by unfold Program.unfollowed; rw [clo3]; kernel_rfl
theorem var3 : Try.prog.varsNamed 3 = Rows.fnExactAroundRow.named := by unfold Program.varsNamed; rw [clo3]; kernel_rfl
theorem rec3 : Try.prog.recurses 3 = true := yes_recursion unf3
theorem mak3 : Try.prog.make = some Rows.fnExactAroundRow.make := cut_make hed
set_option maxHeartbeats 4000000 in
theorem facts3 : joinedFacts Try.prog 3 Try.f3 Rows.fnExactAroundSpec Rows.fnExactAroundRow = true := by
  unfold joinedFacts
  rw [inP3, unf3, var3, rec3, mayE, lifF, mak3]
  refine and_t (and_t (and_t (and_t (and_t (and_t (and_t (and_t (and_t (and_t (and_t (and_t (and_t (and_t (and_t (and_t (and_t (and_t (and_t (and_t (and_t (and_t (and_t (and_t (and_t (and_t (and_t (and_t (and_t (and_t (and_t (?_) ?_) ?_) ?_) ?_) ?_) ?_) ?_) ?_) ?_) ?_) ?_) ?_) ?_) ?_) ?_) ?_) ?_) ?_) ?_) ?_) ?_) ?_) ?_) ?_) ?_) ?_) ?_) ?_) ?_) ?_) ?_ <;> as_aux_lemma => kernel_rfl
set_option maxHeartbeats 4000000 in
theorem over3 : Rows.fnExactAroundRow.holds Try.pinned (OpenSpec.ofChange Rows.fnExactAroundSpec) :=
  OpenClaim.holds_of_wide 3 Try.f3 rfl rfl rfl rfl rfl rfl rfl ⟨rfl, rfl, rfl, rfl, rfl⟩ rfl rfl rfl rfl rfl (by as_aux_lemma => kernel_rfl) Try.func3 facts3
    (by as_aux_lemma => exact of_decide_eq_true (by kernel_rfl)) (by as_aux_lemma => unfold Func.isWrapper; first | (rw [if_pos (by decide +kernel)]; kernel_rfl) | (rw [if_neg (by decide +kernel)]; exact ⟨rfl, rfl⟩))
    (fun os started H enc _ => lifted3 os started H enc)
end
end Go.Proofs.Ytkfekjcahepfnaa.K
namespace Go.Proofs.Ytkfekjcahepfnaa
/-- The row. -/
theorem fnExactAround_holds : Rows.FnExactAroundSaid := K.over3
#print axioms fnExactAround_holds
end Go.Proofs.Ytkfekjcahepfnaa
