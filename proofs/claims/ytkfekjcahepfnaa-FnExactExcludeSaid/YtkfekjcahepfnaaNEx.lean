/-
  The law FnExactExclude returns true at every input and leaves its arguments as they were: the program answers as the reference does. No conditions.
-/
import Derived.Test.YtkfekjcahepfnaaMEx
import Derived.Test.YtkfekjcahepfnaaRows
import Derived.Test.YtkfekjcahepfnaaT0
set_option linter.unusedVariables false
set_option linter.unusedSimpArgs false
set_option maxRecDepth 100000
namespace Go.Proofs.Ytkfekjcahepfnaa.K
noncomputable section
open Go.ChangeShapes Go.WideShapes Go.ChangeAt Go.RowKit
theorem and_t {a b : Bool} (ha : a = true) (hb : b = true) : (a && b) = true := by rw [ha, hb]; rfl
theorem clo7 : Try.prog.closure 7 = [7, 46, 150, 151, 138, 152, 153, 48, 156, 256, 157, 257, 97, 158, 258, 159, 259, 47, 154, 155, 49, 160, 161, 260, 162, 261, 262, 323, 50, 163, 263, 164, 264, 28, 112, 233, 165, 265] := closure_eq leadsTbl (by as_aux_lemma => kernel_rfl)
theorem inP7 : Try.prog.inPlace 7 = Rows.fnExactExcludeRow.inPlace := by unfold Program.inPlace; rw [clo7]; kernel_rfl
theorem unf7 : Try.prog.unfollowed 7 = true := by unfold Program.unfollowed; rw [clo7]; kernel_rfl
theorem var7 : Try.prog.varsNamed 7 = Rows.fnExactExcludeRow.named := by unfold Program.varsNamed; rw [clo7]; kernel_rfl
theorem rec7 : Try.prog.recurses 7 = true := yes_recursion unf7
theorem mak7 : Try.prog.make = some Rows.fnExactExcludeRow.make := cut_make hed
set_option maxHeartbeats 4000000 in
theorem facts7 : joinedFacts Try.prog 7 Try.f7 Rows.fnExactExcludeSpec Rows.fnExactExcludeRow = true := by
  unfold joinedFacts
  rw [inP7, unf7, var7, rec7, mayE, lifF, mak7]
  refine and_t (and_t (and_t (and_t (and_t (and_t (and_t (and_t (and_t (and_t (and_t (and_t (and_t (and_t (and_t (and_t (and_t (and_t (and_t (and_t (and_t (and_t (and_t (and_t (and_t (and_t (and_t (and_t (and_t (and_t (and_t (?_) ?_) ?_) ?_) ?_) ?_) ?_) ?_) ?_) ?_) ?_) ?_) ?_) ?_) ?_) ?_) ?_) ?_) ?_) ?_) ?_) ?_) ?_) ?_) ?_) ?_) ?_) ?_) ?_) ?_) ?_) ?_ <;> as_aux_lemma => kernel_rfl
set_option maxHeartbeats 4000000 in
theorem over7 : Rows.fnExactExcludeRow.holds Try.pinned (OpenSpec.ofChange Rows.fnExactExcludeSpec) :=
  OpenClaim.holds_of_wide 7 Try.f7 rfl rfl rfl rfl rfl rfl rfl ⟨rfl, rfl, rfl, rfl, rfl⟩ rfl rfl rfl rfl rfl (by as_aux_lemma => kernel_rfl) Try.func7 facts7
    (by as_aux_lemma => exact of_decide_eq_true (by kernel_rfl)) (by as_aux_lemma => unfold Func.isWrapper; first | (rw [if_pos (by decide +kernel)]; kernel_rfl) | (rw [if_neg (by decide +kernel)]; exact ⟨rfl, rfl⟩))
    (fun os started H enc _ => lifted7 os started H enc)
end
end Go.Proofs.Ytkfekjcahepfnaa.K
namespace Go.Proofs.Ytkfekjcahepfnaa
/-- The row. -/
theorem fnExactExclude_holds : Rows.FnExactExcludeSaid := K.over7
#print axioms fnExactExclude_holds
end Go.Proofs.Ytkfekjcahepfnaa
