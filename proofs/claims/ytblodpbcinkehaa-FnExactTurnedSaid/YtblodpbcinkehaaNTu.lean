/-
  The law FnExactTurned returns true at every input and leaves its arguments as they were: the program answers as the reference does. No conditions.
-/
import Derived.Test.YtblodpbcinkehaaMTu
import Derived.Test.YtblodpbcinkehaaRows
import Derived.Test.YtblodpbcinkehaaT0
set_option linter.unusedVariables false
set_option linter.unusedSimpArgs false
set_option maxRecDepth 100000
namespace Go.Proofs.Ytblodpbcinkehaa.K
noncomputable section
open Go.ChangeShapes Go.WideShapes Go.ChangeAt Go.RowKit
theorem and_t {a b : Bool} (ha : a = true) (hb : b = true) : (a && b) = true := by rw [ha, hb]; rfl
theorem clo3 : Try.prog.closure 3 = [3, 4, 15, 36, 16, 37, 54, 5, 17, 7, 21, 41, 22, 42, 59, 76, 8, 23, 24, 43, 6, 18, 38, 55, 69, 70, 71, 83, 72, 39, 56, 57, 20, 40, 58, 74, 73, 75, 19, 9, 25, 44, 60, 77, 78, 45, 61, 62, 47, 64, 80, 63, 79, 66, 65, 81, 48, 26, 46, 67, 27, 10, 28, 29, 49, 11, 30, 50, 31, 51, 68, 82, 12, 32, 52, 33, 53, 13, 34, 14, 35] := closure_eq leadsTbl (by as_aux_lemma => kernel_rfl)
theorem inP3 : Try.prog.inPlace 3 = Rows.fnExactTurnedRow.inPlace := by unfold Program.inPlace; rw [clo3]; kernel_rfl
theorem unf3 : Try.prog.unfollowed 3 = false := by unfold Program.unfollowed; rw [clo3]; kernel_rfl
theorem var3 : Try.prog.varsNamed 3 = Rows.fnExactTurnedRow.named := by unfold Program.varsNamed; rw [clo3]; kernel_rfl
theorem rec3 : Try.prog.recurses 3 = false := no_recursion leadsTbl (rk := [0, 0, 0, 8, 4, 2, 7, 5, 3, 6, 3, 5, 3, 2, 2, 2, 3, 1, 6, 3, 2, 2, 4, 1, 2, 5, 3, 2, 1, 2, 2, 4, 2, 2, 1, 1, 1, 2, 5, 3, 1, 1, 3, 1, 4, 3, 2, 1, 1, 1, 1, 3, 1, 1, 1, 4, 2, 1, 2, 2, 3, 2, 1, 2, 2, 2, 2, 1, 2, 1, 1, 3, 1, 1, 1, 1, 1, 2, 1, 1, 1, 1, 1, 2, 0, 0, 0, 0, 0, 0, 0, 0, 0, 0, 0, 0, 0, 0, 0, 0]) clo3 unf3 (by as_aux_lemma => kernel_rfl)
theorem mak3 : Try.prog.make = some Rows.fnExactTurnedRow.make := cut_make hed
set_option maxHeartbeats 4000000 in
theorem facts3 : joinedFacts Try.prog 3 Try.f3 Rows.fnExactTurnedSpec Rows.fnExactTurnedRow = true := by
  unfold joinedFacts
  rw [inP3, unf3, var3, rec3, mayE, lifF, mak3]
  refine and_t (and_t (and_t (and_t (and_t (and_t (and_t (and_t (and_t (and_t (and_t (and_t (and_t (and_t (and_t (and_t (and_t (and_t (and_t (and_t (and_t (and_t (and_t (and_t (and_t (and_t (and_t (and_t (and_t (and_t (and_t (?_) ?_) ?_) ?_) ?_) ?_) ?_) ?_) ?_) ?_) ?_) ?_) ?_) ?_) ?_) ?_) ?_) ?_) ?_) ?_) ?_) ?_) ?_) ?_) ?_) ?_) ?_) ?_) ?_) ?_) ?_) ?_ <;> as_aux_lemma => kernel_rfl
set_option maxHeartbeats 4000000 in
theorem over3 : Rows.fnExactTurnedRow.holds Try.pinned (OpenSpec.ofChange Rows.fnExactTurnedSpec) :=
  OpenClaim.holds_of_wide 3 Try.f3 rfl rfl rfl rfl rfl rfl rfl ⟨rfl, rfl, rfl, rfl, rfl⟩ rfl rfl rfl rfl rfl (by as_aux_lemma => kernel_rfl) Try.func3 facts3
    (by as_aux_lemma => exact of_decide_eq_true (by kernel_rfl)) (by as_aux_lemma => unfold Func.isWrapper; first | (rw [if_pos (by decide +kernel)]; kernel_rfl) | (rw [if_neg (by decide +kernel)]; exact ⟨rfl, rfl⟩))
    (fun os started H enc _ => lifted3 os started H enc)
end
end Go.Proofs.Ytblodpbcinkehaa.K
namespace Go.Proofs.Ytblodpbcinkehaa
/-- The row. -/
theorem fnExactTurned_holds : Rows.FnExactTurnedSaid := K.over3
#print axioms fnExactTurned_holds
end Go.Proofs.Ytblodpbcinkehaa
