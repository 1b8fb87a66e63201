/-
  The law FnExactTable returns true at every input and leaves its arguments as they were: the program answers as the reference does. No conditions.
-/
import Derived.Test.YtkfekjcahepfnaaMTb
import Derived.Test.YtkfekjcahepfnaaRows
import Derived.Test.YtkfekjcahepfnaaT0
set_option linter.unusedVariables false
set_option linter.unusedSimpArgs false
set_option maxRecDepth 100000
namespace Go.Proofs.Ytkfekjcahepfnaa.K
noncomputable section
open Go.ChangeShapes Go.WideShapes Go.ChangeAt Go.RowKit
theorem and_t {a b : Bool} (ha : a = true) (hb : b = true) : (a && b) = true := by rw [ha, hb]; rfl
theorem clo10 : Try.prog.closure 10 = [10, 60, 46, 150, 151, 138, 152, 153, 62, 48, 156, 256, 157, 257, 97, 158, 258, 159, 259, 61, 47, 154, 155, 63, 49, 160, 161, 260, 162, 261, 262, 323, 64, 28, 65, 50, 163, 263, 164, 264, 112, 233, 165, 265, 66, 179, 180, 31, 113, 181, 67, 68, 32] := closure_eq leadsTbl (by as_aux_lemma => kernel_rfl)
theorem inP10 : Try.prog.inPlace 10 = Rows.fnExactTableRow.inPlace := by unfold Program.inPlace; rw [clo10]; kernel_rfl
theorem unf10 : Try.prog.unfollowed 10 = true := by unfold Program.unfollowed; rw [clo10]; kernel_rfl
theorem var10 : Try.prog.varsNamed 10 = Rows.fnExactTableRow.named := by unfold Program.varsNamed; rw [clo10]; kernel_rfl
theorem rec10 : Try.prog.recurses 10 = true := yes_recursion unf10
theorem mak10 : Try.prog.make = some Rows.fnExactTableRow.make := cut_make hed
set_option maxHeartbeats 4000000 in
theorem facts10 : joinedFacts Try.prog 10 Try.f10 Rows.fnExactTableSpec Rows.fnExactTableRow = true := by
  unfold joinedFacts
  rw [inP10, unf10, var10, rec10, mayE, lifF, mak10]
  refine and_t (and_t (and_t (and_t (and_t (and_t (and_t (and_t (and_t (and_t (and_t (and_t (and_t (and_t (and_t (and_t (and_t (and_t (and_t (and_t (and_t (and_t (and_t (and_t (and_t (and_t (and_t (and_t (and_t (and_t (and_t (?_) ?_) ?_) ?_) ?_) ?_) ?_) ?_) ?_) ?_) ?_) ?_) ?_) ?_) ?_) ?_) ?_) ?_) ?_) ?_) ?_) ?_) ?_) ?_) ?_) ?_) ?_) ?_) ?_) ?_) ?_) ?_ <;> as_aux_lemma => kernel_rfl
set_option maxHeartbeats 4000000 in
theorem over10 : Rows.fnExactTableRow.holds Try.pinned (OpenSpec.ofChange Rows.fnExactTableSpec) :=
  OpenClaim.holds_of_wide 10 Try.f10 rfl rfl rfl rfl rfl rfl rfl ⟨rfl, rfl, rfl, rfl, rfl⟩ rfl rfl rfl rfl rfl (by as_aux_lemma => kernel_rfl) Try.func10 facts10
    (by as_aux_lemma => exact of_decide_eq_true (by kernel_rfl)) (by as_aux_lemma => unfold Func.isWrapper; first | (rw [if_pos (by decide +kernel)]; kernel_rfl) | (rw [if_neg (by decide +kernel)]; exact ⟨rfl, rfl⟩))
    (fun os started H enc _ => lifted10 os started H enc)
end
end Go.Proofs.Ytkfekjcahepfnaa.K
namespace Go.Proofs.Ytkfekjcahepfnaa
/-- The row. -/
theorem fnExactTable_holds : Rows.FnExactTableSaid := K.over10
#print axioms fnExactTable_holds
end Go.Proofs.Ytkfekjcahepfnaa
