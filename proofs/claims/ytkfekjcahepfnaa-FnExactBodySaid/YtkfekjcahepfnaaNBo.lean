/-
  The law FnExactBody returns true at every input and leaves its arguments as they were: the program answers as the reference does. No conditions.
-/
import Derived.Test.YtkfekjcahepfnaaMBo
import Derived.Test.YtkfekjcahepfnaaRows
import Derived.Test.YtkfekjcahepfnaaT0
set_option linter.unusedVariables false
set_option linter.unusedSimpArgs false
set_option maxRecDepth 100000
namespace Go.Proofs.Ytkfekjcahepfnaa.K
noncomputable section
open Go.ChangeShapes Go.WideShapes Go.ChangeAt Go.RowKit
theorem and_t {a b : Bool} (ha : a = true) (hb : b = true) : (a && b) = true := by rw [ha, hb]; rfl
theorem clo19 : Try.prog.closure 19 = [19, 77, 193, 282, 194, 283, 328, 78, 150, 80, 197, 286, 198, 287, 333, 353, 81, 100, 156, 256, 110, 79, 195, 284, 329, 330, 331, 352, 332, 196, 220, 221, 222, 305, 285, 224, 306, 307, 206, 298, 111, 82, 199, 288, 334, 335, 200, 226, 171, 289, 291, 337, 290, 336, 293, 292, 338, 294, 232, 297, 340, 112, 233, 83, 201, 295, 202, 296, 339, 354, 84, 87, 163, 263, 103, 228, 309, 229, 310, 108, 179, 113, 114] := closure_eq leadsTbl (by as_aux_lemma => kernel_rfl)
theorem inP19 : Try.prog.inPlace 19 = Rows.fnExactBodyRow.inPlace := by unfold Program.inPlace; rw [clo19]; kernel_rfl
theorem unf19 : Try.prog.unfollowed 19 = false := by unfold Program.unfollowed; rw [clo19]; kernel_rfl
theorem var19 : Try.prog.varsNamed 19 = Rows.fnExactBodyRow.named := by unfold Program.varsNamed; rw [clo19]; kernel_rfl
theorem rec19 : Try.prog.recurses 19 = false := no_recursion leadsTbl (rk := [0, 0, 0, 0, 0, 0, 0, 0, 0, 0, 0, 0, 0, 0, 0, 0, 0, 0, 0, 8, 0, 0, 0, 0, 0, 0, 0, 0, 0, 0, 0, 0, 0, 0, 0, 0, 0, 0, 0, 0, 0, 0, 0, 0, 0, 0, 0, 0, 0, 0, 0, 0, 0, 0, 0, 0, 0, 0, 0, 0, 0, 0, 0, 0, 0, 0, 0, 0, 0, 0, 0, 0, 0, 0, 0, 0, 0, 4, 2, 6, 5, 3, 5, 5, 3, 0, 0, 1, 0, 0, 0, 0, 0, 0, 0, 0, 0, 0, 0, 0, 1, 0, 0, 3, 0, 0, 0, 0, 2, 0, 7, 6, 2, 1, 1, 0, 0, 0, 0, 0, 0, 0, 0, 0, 0, 0, 0, 0, 0, 0, 0, 0, 0, 0, 0, 0, 0, 0, 0, 0, 0, 0, 0, 0, 0, 0, 0, 0, 0, 0, 1, 0, 0, 0, 0, 0, 2, 0, 0, 0, 0, 0, 0, 2, 0, 0, 0, 0, 0, 0, 0, 1, 0, 0, 0, 0, 0, 0, 0, 1, 0, 0, 0, 0, 0, 0, 0, 0, 0, 0, 0, 0, 0, 2, 3, 5, 3, 2, 4, 4, 3, 2, 4, 0, 0, 0, 3, 0, 0, 0, 0, 0, 0, 0, 0, 0, 0, 0, 0, 0, 2, 1, 2, 0, 1, 0, 2, 0, 2, 2, 0, 0, 3, 1, 0, 0, 0, 0, 0, 0, 0, 0, 0, 0, 0, 0, 0, 0, 0, 0, 0, 0, 0, 0, 0, 0, 1, 0, 0, 0, 0, 0, 0, 1, 0, 0, 0, 0, 0, 0, 0, 0, 0, 0, 0, 0, 0, 0, 0, 0, 0, 0, 1, 2, 4, 2, 1, 3, 3, 1, 2, 2, 2, 2, 1, 1, 3, 2, 1, 0, 0, 0, 0, 0, 0, 1, 1, 1, 0, 1, 1, 0, 0, 0, 0, 0, 0, 0, 0, 0, 0, 0, 0, 0, 0, 0, 0, 0, 1, 1, 1, 3, 1, 2, 2, 1, 1, 1, 1, 2, 1, 0, 0, 0, 0, 0, 0, 0, 0, 0, 0, 0, 2, 1, 1, 0, 0, 0, 0, 0, 0, 0, 0, 0, 0, 0, 0, 0, 0, 0, 0, 0, 0, 0, 0, 0, 0]) clo19 unf19 (by as_aux_lemma => kernel_rfl)
theorem mak19 : Try.prog.make = some Rows.fnExactBodyRow.make := cut_make hed
set_option maxHeartbeats 4000000 in
theorem facts19 : joinedFacts Try.prog 19 Try.f19 Rows.fnExactBodySpec Rows.fnExactBodyRow = true := by
  unfold joinedFacts
  rw [inP19, unf19, var19, rec19, mayE, lifF, mak19]
  refine and_t (and_t (and_t (and_t (and_t (and_t (and_t (and_t (and_t (and_t (and_t (and_t (and_t (and_t (and_t (and_t (and_t (and_t (and_t (and_t (and_t (and_t (and_t (and_t (and_t (and_t (and_t (and_t (and_t (and_t (and_t (?_) ?_) ?_) ?_) ?_) ?_) ?_) ?_) ?_) ?_) ?_) ?_) ?_) ?_) ?_) ?_) ?_) ?_) ?_) ?_) ?_) ?_) ?_) ?_) ?_) ?_) ?_) ?_) ?_) ?_) ?_) ?_ <;> as_aux_lemma => kernel_rfl
set_option maxHeartbeats 4000000 in
theorem over19 : Rows.fnExactBodyRow.holds Try.pinned (OpenSpec.ofChange Rows.fnExactBodySpec) :=
  OpenClaim.holds_of_wide 19 Try.f19 rfl rfl rfl rfl rfl rfl rfl ⟨rfl, rfl, rfl, rfl, rfl⟩ rfl rfl rfl rfl rfl (by as_aux_lemma => kernel_rfl) Try.func19 facts19
    (by as_aux_lemma => exact of_decide_eq_true (by kernel_rfl)) (by as_aux_lemma => unfold Func.isWrapper; first | (rw [if_pos (by decide +kernel)]; kernel_rfl) | (rw [if_neg (by decide +kernel)]; exact ⟨rfl, rfl⟩))
    (fun os started H enc _ => lifted19 os started H enc)
end
end Go.Proofs.Ytkfekjcahepfnaa.K
namespace Go.Proofs.Ytkfekjcahepfnaa
/-- The row. -/
theorem fnExactBody_holds : Rows.FnExactBodySaid := K.over19
#print axioms fnExactBody_holds
end Go.Proofs.Ytkfekjcahepfnaa
