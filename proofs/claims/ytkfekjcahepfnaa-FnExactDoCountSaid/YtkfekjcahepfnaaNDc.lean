/-
  The law FnExactDoCount returns true at every input and leaves its arguments as they were: the program answers as the reference does. No conditions.
-/
import Derived.Test.YtkfekjcahepfnaaMDc
import Derived.Test.YtkfekjcahepfnaaRows
import Derived.Test.YtkfekjcahepfnaaT0
set_option linter.unusedVariables false
set_option linter.unusedSimpArgs false
set_option maxRecDepth 100000
namespace Go.Proofs.Ytkfekjcahepfnaa.K
noncomputable section
open Go.ChangeShapes Go.WideShapes Go.ChangeAt Go.RowKit
theorem and_t {a b : Bool} (ha : a = true) (hb : b = true) : (a && b) = true := by rw [ha, hb]; rfl
theorem clo11 : Try.prog.closure 11 = [11, 24, 125, 69, 182, 139, 26, 128, 249, 71, 189, 275, 143, 72, 70, 183, 126, 127, 188, 187, 25, 184, 185, 186, 73, 190, 129, 250, 276, 277, 191, 192, 278, 279, 280, 281, 74, 35, 132, 252, 133, 29, 130, 251, 30, 131, 36, 134, 135, 75, 76, 37, 136, 137] := closure_eq leadsTbl (by as_aux_lemma => kernel_rfl)
theorem inP11 : Try.prog.inPlace 11 = Rows.fnExactDoCountRow.inPlace := by unfold Program.inPlace; rw [clo11]; kernel_rfl
theorem unf11 : Try.prog.unfollowed 11 = true := by unfold Program.unfollowed; rw [clo11]; kernel_rfl
theorem var11 : Try.prog.varsNamed 11 = Rows.fnExactDoCountRow.named := by unfold Program.varsNamed; rw [clo11]; kernel_rfl
theorem rec11 : Try.prog.recurses 11 = true := yes_recursion unf11
theorem mak11 : Try.prog.make = some Rows.fnExactDoCountRow.make := cut_make hed
set_option maxHeartbeats 4000000 in
theorem facts11 : joinedFacts Try.prog 11 Try.f11 Rows.fnExactDoCountSpec Rows.fnExactDoCountRow = true := by
  unfold joinedFacts
  rw [inP11, unf11, var11, rec11, mayE, lifF, mak11]
  refine and_t (and_t (and_t (and_t (and_t (and_t (and_t (and_t (and_t (and_t (and_t (and_t (and_t (and_t (and_t (and_t (and_t (and_t (and_t (and_t (and_t (and_t (and_t (and_t (and_t (and_t (and_t (and_t (and_t (and_t (and_t (?_) ?_) ?_) ?_) ?_) ?_) ?_) ?_) ?_) ?_) ?_) ?_) ?_) ?_) ?_) ?_) ?_) ?_) ?_) ?_) ?_) ?_) ?_) ?_) ?_) ?_) ?_) ?_) ?_) ?_) ?_) ?_ <;> as_aux_lemma => kernel_rfl
set_option maxHeartbeats 4000000 in
theorem over11 : Rows.fnExactDoCountRow.holds Try.pinned (OpenSpec.ofChange Rows.fnExactDoCountSpec) :=
  OpenClaim.holds_of_wide 11 Try.f11 rfl rfl rfl rfl rfl rfl rfl ⟨rfl, rfl, rfl, rfl, rfl⟩ rfl rfl rfl rfl rfl (by as_aux_lemma => kernel_rfl) Try.func11 facts11
    (by as_aux_lemma => exact of_decide_eq_true (by kernel_rfl)) (by as_aux_lemma => unfold Func.isWrapper; first | (rw [if_pos (by decide +kernel)]; kernel_rfl) | (rw [if_neg (by decide +kernel)]; exact ⟨rfl, rfl⟩))
    (fun os started H enc _ => lifted11 os started H enc)
end
end Go.Proofs.Ytkfekjcahepfnaa.K
namespace Go.Proofs.Ytkfekjcahepfnaa
/-- The row. -/
theorem fnExactDoCount_holds : Rows.FnExactDoCountSaid := K.over11
#print axioms fnExactDoCount_holds
end Go.Proofs.Ytkfekjcahepfnaa
