/-
  The law FnExactSits returns true at every input and leaves its arguments as they were: the program answers as the reference does. No conditions.
-/
import Derived.Test.YtkfekjcahepfnaaMSi
import Derived.Test.YtkfekjcahepfnaaRows
import Derived.Test.YtkfekjcahepfnaaT0
set_option linter.unusedVariables false
set_option linter.unusedSimpArgs false
set_option maxRecDepth 100000
namespace Go.Proofs.Ytkfekjcahepfnaa.K
noncomputable section
open Go.ChangeShapes Go.WideShapes Go.ChangeAt Go.RowKit
theorem and_t {a b : Bool} (ha : a = true) (hb : b = true) : (a && b) = true := by rw [ha, hb]; rfl
theorem clo16 : Try.prog.closure 16 = [16, 77, 193, 282, 194, 283, 328, 78, 150, 80, 197, 286, 198, 287, 333, 353, 97, 81, 100, 156, 256, 96, 216, 195, 284, 329, 330, 331, 352, 332, 302, 221, 196, 220, 222, 305, 285, 224, 306, 307, 217, 223, 98, 218, 199, 288, 334, 335, 303, 171, 200, 226, 289, 291, 337, 290, 336, 293, 292, 338, 294, 219, 304, 83, 201, 295, 202, 296, 339, 354, 28, 84, 87, 163, 263] := closure_eq leadsTbl (by as_aux_lemma => kernel_rfl)
theorem inP16 : Try.prog.inPlace 16 = Rows.fnExactSitsRow.inPlace := by unfold Program.inPlace; rw [clo16]; kernel_rfl
theorem unf16 : Try.prog.unfollowed 16 = false := by unfold Program.unfollowed; rw [clo16]; kernel_rfl
theorem var16 : Try.prog.varsNamed 16 = Rows.fnExactSitsRow.named := by unfold Program.varsNamed; rw [clo16]; kernel_rfl
theorem rec16 : Try.prog.recurses 16 = false := no_recursion leadsTbl (rk := [0, 0, 0, 0, 0, 0, 0, 0, 0, 0, 0, 0, 0, 0, 0, 0, 8, 0, 0, 0, 0, 0, 0, 0, 0, 0, 0, 0, 1, 0, 0, 0, 0, 0, 0, 0, 0, 0, 0, 0, 0, 0, 0, 0, 0, 0, 0, 0, 0, 0, 0, 0, 0, 0, 0, 0, 0, 0, 0, 0, 0, 0, 0, 0, 0, 0, 0, 0, 0, 0, 0, 0, 0, 0, 0, 0, 0, 4, 2, 0, 5, 3, 0, 5, 3, 0, 0, 1, 0, 0, 0, 0, 0, 0, 0, 0, 7, 1, 6, 0, 1, 0, 0, 0, 0, 0, 0, 0, 0, 0, 0, 0, 0, 0, 0, 0, 0, 0, 0, 0, 0, 0, 0, 0, 0, 0, 0, 0, 0, 0, 0, 0, 0, 0, 0, 0, 0, 0, 0, 0, 0, 0, 0, 0, 0, 0, 0, 0, 0, 0, 1, 0, 0, 0, 0, 0, 2, 0, 0, 0, 0, 0, 0, 2, 0, 0, 0, 0, 0, 0, 0, 1, 0, 0, 0, 0, 0, 0, 0, 0, 0, 0, 0, 0, 0, 0, 0, 0, 0, 0, 0, 0, 0, 2, 3, 5, 3, 2, 4, 4, 3, 2, 4, 0, 0, 0, 0, 0, 0, 0, 0, 0, 0, 0, 0, 0, 6, 3, 5, 4, 2, 1, 2, 2, 1, 0, 2, 0, 0, 0, 0, 0, 0, 0, 0, 0, 0, 0, 0, 0, 0, 0, 0, 0, 0, 0, 0, 0, 0, 0, 0, 0, 0, 0, 0, 0, 1, 0, 0, 0, 0, 0, 0, 1, 0, 0, 0, 0, 0, 0, 0, 0, 0, 0, 0, 0, 0, 0, 0, 0, 0, 0, 1, 2, 4, 2, 1, 3, 3, 1, 2, 2, 2, 2, 1, 1, 3, 0, 0, 0, 0, 0, 2, 2, 3, 1, 1, 1, 0, 0, 0, 0, 0, 0, 0, 0, 0, 0, 0, 0, 0, 0, 0, 0, 0, 0, 0, 0, 1, 1, 1, 3, 1, 2, 2, 1, 1, 1, 1, 2, 0, 0, 0, 0, 0, 0, 0, 0, 0, 0, 0, 0, 2, 1, 1, 0, 0, 0, 0, 0, 0, 0, 0, 0, 0, 0, 0, 0, 0, 0, 0, 0, 0, 0, 0, 0, 0]) clo16 unf16 (by as_aux_lemma => kernel_rfl)
theorem mak16 : Try.prog.make = some Rows.fnExactSitsRow.make := cut_make hed
set_option maxHeartbeats 4000000 in
theorem facts16 : joinedFacts Try.prog 16 Try.f16 Rows.fnExactSitsSpec Rows.fnExactSitsRow = true := by
  unfold joinedFacts
  rw [inP16, unf16, var16, rec16, mayE, lifF, mak16]
  refine and_t (and_t (and_t (and_t (and_t (and_t (and_t (and_t (and_t (and_t (and_t (and_t (and_t (and_t (and_t (and_t (and_t (and_t (and_t (and_t (and_t (and_t (and_t (and_t (and_t (and_t (and_t (and_t (and_t (and_t (and_t (?_) ?_) ?_) ?_) ?_) ?_) ?_) ?_) ?_) ?_) ?_) ?_) ?_) ?_) ?_) ?_) ?_) ?_) ?_) ?_) ?_) ?_) ?_) ?_) ?_) ?_) ?_) ?_) ?_) ?_) ?_) ?_ <;> as_aux_lemma => kernel_rfl
set_option maxHeartbeats 4000000 in
theorem over16 : Rows.fnExactSitsRow.holds Try.pinned (OpenSpec.ofChange Rows.fnExactSitsSpec) :=
  OpenClaim.holds_of_wide 16 Try.f16 rfl rfl rfl rfl rfl rfl rfl ⟨rfl, rfl, rfl, rfl, rfl⟩ rfl rfl rfl rfl rfl (by as_aux_lemma => kernel_rfl) Try.func16 facts16
    (by as_aux_lemma => exact of_decide_eq_true (by kernel_rfl)) (by as_aux_lemma => unfold Func.isWrapper; first | (rw [if_pos (by decide +kernel)]; kernel_rfl) | (rw [if_neg (by decide +kernel)]; exact ⟨rfl, rfl⟩))
    (fun os started H enc _ => lifted16 os started H enc)
end
end Go.Proofs.Ytkfekjcahepfnaa.K
namespace Go.Proofs.Ytkfekjcahepfnaa
/-- The row. -/
theorem fnExactSits_holds : Rows.FnExactSitsSaid := K.over16
#print axioms fnExactSits_holds
end Go.Proofs.Ytkfekjcahepfnaa
