/-
  The law FnExactPlace returns true at every input and leaves its arguments as they were: the program answers as the reference does. No conditions.
-/
import Derived.Test.YtkfekjcahepfnaaMPc
import Derived.Test.YtkfekjcahepfnaaRows
import Derived.Test.YtkfekjcahepfnaaT0
set_option linter.unusedVariables false
set_option linter.unusedSimpArgs false
set_option maxRecDepth 100000
namespace Go.Proofs.Ytkfekjcahepfnaa.K
noncomputable section
open Go.ChangeShapes Go.WideShapes Go.ChangeAt Go.RowKit
theorem and_t {a b : Bool} (ha : a = true) (hb : b = true) : (a && b) = true := by rw [ha, hb]; rfl
theorem clo17 : Try.prog.closure 17 = [17, 77, 193, 282, 194, 283, 328, 80, 197, 286, 198, 287, 333, 353, 97, 100, 99, 216, 195, 284, 329, 330, 331, 352, 332, 302, 221, 220, 222, 305, 224, 223, 306, 307, 225, 101, 218, 199, 288, 334, 335, 303, 171, 226, 227, 289, 293, 337, 304, 336, 290, 308, 294, 102, 84, 87, 163, 263, 83, 201, 295, 202, 296, 339, 354, 28, 103, 228, 309, 229, 310, 31, 104, 108, 179, 105, 109, 231] := closure_eq leadsTbl (by as_aux_lemma => kernel_rfl)
theorem inP17 : Try.prog.inPlace 17 = Rows.fnExactPlaceRow.inPlace := by unfold Program.inPlace; rw [clo17]; kernel_rfl
theorem unf17 : Try.prog.unfollowed 17 = false := by unfold Program.unfollowed; rw [clo17]; kernel_rfl
theorem var17 : Try.prog.varsNamed 17 = Rows.fnExactPlaceRow.named := by unfold Program.varsNamed; rw [clo17]; kernel_rfl
theorem rec17 : Try.prog.recurses 17 = false := no_recursion leadsTbl (rk := [0, 0, 0, 0, 0, 0, 0, 0, 0, 0, 0, 0, 0, 0, 0, 0, 0, 8, 0, 0, 0, 0, 0, 0, 0, 0, 0, 0, 1, 0, 0, 1, 0, 0, 0, 0, 0, 0, 0, 0, 0, 0, 0, 0, 0, 0, 0, 0, 0, 0, 0, 0, 0, 0, 0, 0, 0, 0, 0, 0, 0, 0, 0, 0, 0, 0, 0, 0, 0, 0, 0, 0, 0, 0, 0, 0, 0, 4, 0, 0, 5, 0, 0, 5, 3, 0, 0, 1, 0, 0, 0, 0, 0, 0, 0, 0, 0, 1, 0, 7, 1, 6, 4, 3, 3, 3, 0, 0, 2, 2, 0, 0, 0, 0, 0, 0, 0, 0, 0, 0, 0, 0, 0, 0, 0, 0, 0, 0, 0, 0, 0, 0, 0, 0, 0, 0, 0, 0, 0, 0, 0, 0, 0, 0, 0, 0, 0, 0, 0, 0, 0, 0, 0, 0, 0, 0, 0, 0, 0, 0, 0, 0, 0, 2, 0, 0, 0, 0, 0, 0, 0, 1, 0, 0, 0, 0, 0, 0, 0, 1, 0, 0, 0, 0, 0, 0, 0, 0, 0, 0, 0, 0, 0, 2, 3, 5, 0, 2, 4, 4, 0, 2, 4, 0, 0, 0, 0, 0, 0, 0, 0, 0, 0, 0, 0, 0, 6, 0, 5, 0, 2, 1, 2, 2, 1, 1, 2, 4, 2, 2, 0, 1, 0, 0, 0, 0, 0, 0, 0, 0, 0, 0, 0, 0, 0, 0, 0, 0, 0, 0, 0, 0, 0, 0, 0, 0, 0, 0, 0, 0, 0, 0, 0, 1, 0, 0, 0, 0, 0, 0, 0, 0, 0, 0, 0, 0, 0, 0, 0, 0, 0, 0, 1, 2, 4, 0, 1, 3, 3, 1, 2, 0, 0, 2, 1, 1, 3, 0, 0, 0, 0, 0, 2, 2, 3, 1, 1, 1, 1, 1, 1, 0, 0, 0, 0, 0, 0, 0, 0, 0, 0, 0, 0, 0, 0, 0, 0, 0, 1, 1, 1, 3, 1, 2, 2, 1, 1, 1, 0, 2, 0, 0, 0, 0, 0, 0, 0, 0, 0, 0, 0, 0, 2, 1, 1, 0, 0, 0, 0, 0, 0, 0, 0, 0, 0, 0, 0, 0, 0, 0, 0, 0, 0, 0, 0, 0, 0]) clo17 unf17 (by as_aux_lemma => kernel_rfl)
theorem mak17 : Try.prog.make = some Rows.fnExactPlaceRow.make := cut_make hed
set_option maxHeartbeats 4000000 in
theorem facts17 : joinedFacts Try.prog 17 Try.f17 Rows.fnExactPlaceSpec Rows.fnExactPlaceRow = true := by
  unfold joinedFacts
  rw [inP17, unf17, var17, rec17, mayE, lifF, mak17]
  refine and_t (and_t (and_t (and_t (and_t (and_t (and_t (and_t (and_t (and_t (and_t (and_t (and_t (and_t (and_t (and_t (and_t (and_t (and_t (and_t (and_t (and_t (and_t (and_t (and_t (and_t (and_t (and_t (and_t (and_t (and_t (?_) ?_) ?_) ?_) ?_) ?_) ?_) ?_) ?_) ?_) ?_) ?_) ?_) ?_) ?_) ?_) ?_) ?_) ?_) ?_) ?_) ?_) ?_) ?_) ?_) ?_) ?_) ?_) ?_) ?_) ?_) ?_ <;> as_aux_lemma => kernel_rfl
set_option maxHeartbeats 4000000 in
theorem over17 : Rows.fnExactPlaceRow.holds Try.pinned (OpenSpec.ofChange Rows.fnExactPlaceSpec) :=
  OpenClaim.holds_of_wide 17 Try.f17 rfl rfl rfl rfl rfl rfl rfl ⟨rfl, rfl, rfl, rfl, rfl⟩ rfl rfl rfl rfl rfl (by as_aux_lemma => kernel_rfl) Try.func17 facts17
    (by as_aux_lemma => exact of_decide_eq_true (by kernel_rfl)) (by as_aux_lemma => unfold Func.isWrapper; first | (rw [if_pos (by decide +kernel)]; kernel_rfl) | (rw [if_neg (by decide +kernel)]; exact ⟨rfl, rfl⟩))
    (fun os started H enc _ => lifted17 os started H enc)
end
end Go.Proofs.Ytkfekjcahepfnaa.K
namespace Go.Proofs.Ytkfekjcahepfnaa
/-- The row. -/
theorem fnExactPlace_holds : Rows.FnExactPlaceSaid := K.over17
#print axioms fnExactPlace_holds
end Go.Proofs.Ytkfekjcahepfnaa
