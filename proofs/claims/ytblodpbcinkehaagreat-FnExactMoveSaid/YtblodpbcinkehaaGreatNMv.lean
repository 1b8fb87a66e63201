/-
  The law FnExactMove returns true at every input and leaves its arguments as they were: the program answers as the reference does. No conditions.
-/
import Derived.Test.YtblodpbcinkehaaGreatMMv
import Derived.Test.YtblodpbcinkehaaGreatRows
import Derived.Test.YtblodpbcinkehaaGreatT0
set_option linter.unusedVariables false
set_option linter.unusedSimpArgs false
set_option maxRecDepth 100000
namespace Go.Proofs.YtblodpbcinkehaaGreat.K
noncomputable section
open Go.ChangeShapes Go.WideShapes Go.ChangeAt Go.RowKit
theorem D7 {a b : Bool} (ha : a = true) (hb : b = true) : (a && b) = true := by rw [ha, hb]; rfl
theorem Xh : Tryz.prog.closure 3 = [3, 4, 20, 44, 21, 45, 84, 5, 22, 7, 25, 58, 26, 59, 91, 97, 8, 9, 27, 28, 60, 6, 23, 46, 85, 96, 101, 102, 103, 105, 104, 86, 48, 47, 87, 56, 51, 88, 53, 89, 90, 24, 49, 50, 52, 54, 55, 57, 10, 29, 61, 92, 98, 99, 62, 31, 30, 63, 64, 66, 75, 65, 93, 68, 67, 94, 69, 32, 70, 71, 74, 72, 73, 76, 11, 14, 36, 37, 80, 33, 77, 12, 34, 78, 35, 79, 95, 100, 13, 15, 38, 81, 39, 82, 16, 17, 40, 18, 41, 19, 42, 83, 43] := Mg RT (by as_aux_lemma => kernel_rfl)
theorem jO : Tryz.prog.inPlace 3 = Rows.fnExactMoveRow.inPlace := by unfold Program.inPlace; rw [Xh]; kernel_rfl
theorem iP : Tryz.prog.unfollowed 3 = false := by unfold Program.unfollowed; rw [Xh]; kernel_rfl
theorem kT : Tryz.prog.varsNamed 3 = Rows.fnExactMoveRow.named := by unfold Program.varsNamed; rw [Xh]; kernel_rfl
theorem kJ : Tryz.prog.recurses 3 = false := QT RT (rk := [0, 0, 0, 9, 4, 2, 8, 5, 1, 3, 6, 4, 5, 1, 3, 3, 1, 2, 3, 3, 2, 3, 1, 7, 5, 2, 4, 1, 2, 5, 3, 1, 5, 2, 2, 4, 1, 2, 2, 2, 1, 1, 2, 1, 1, 2, 6, 3, 1, 3, 3, 1, 2, 1, 1, 4, 2, 1, 1, 3, 1, 4, 2, 2, 1, 2, 2, 2, 2, 1, 1, 4, 1, 2, 3, 1, 1, 1, 1, 3, 1, 1, 1, 1, 1, 5, 2, 2, 2, 1, 1, 2, 3, 1, 1, 2, 4, 1, 2, 1, 1, 1, 1, 3, 1, 2, 0, 0, 0, 0, 0, 0, 0, 0, 0, 0, 0, 0, 0, 0, 0, 0]) Xh iP (by as_aux_lemma => kernel_rfl)
theorem jT : Tryz.prog.make = some Rows.fnExactMoveRow.make := Vl jN
set_option maxHeartbeats 4000000 in
theorem bF : joinedFacts Tryz.prog 3 Tryz.f3 Rows.fnExactMoveSpec Rows.fnExactMoveRow = true := by
  unfold joinedFacts
  rw [jO, iP, kT, kJ, jU, jR, jT]
  refine D7 (D7 (D7 (D7 (D7 (D7 (D7 (D7 (D7 (D7 (D7 (D7 (D7 (D7 (D7 (D7 (D7 (D7 (D7 (D7 (D7 (D7 (D7 (D7 (D7 (D7 (D7 (D7 (D7 (D7 (D7 (?_) ?_) ?_) ?_) ?_) ?_) ?_) ?_) ?_) ?_) ?_) ?_) ?_) ?_) ?_) ?_) ?_) ?_) ?_) ?_) ?_) ?_) ?_) ?_) ?_) ?_) ?_) ?_) ?_) ?_) ?_) ?_ <;> as_aux_lemma => kernel_rfl
set_option maxHeartbeats 4000000 in
theorem gM : Rows.fnExactMoveRow.holds Tryz.pinned (OpenSpec.ofChange Rows.fnExactMoveSpec) :=
  OpenClaim.holds_of_wide 3 Tryz.f3 rfl rfl rfl rfl rfl rfl rfl ⟨rfl, rfl, rfl, rfl, rfl⟩ rfl rfl rfl rfl rfl (by as_aux_lemma => kernel_rfl) Tryz.func3 bF
    (by as_aux_lemma => exact of_decide_eq_true (by kernel_rfl)) (by as_aux_lemma => unfold Func.isWrapper; first | (rw [if_pos (by decide +kernel)]; kernel_rfl) | (rw [if_neg (by decide +kernel)]; exact ⟨rfl, rfl⟩))
    (fun os started H enc _ => Yu os started H enc)
end
end Go.Proofs.YtblodpbcinkehaaGreat.K
namespace Go.Proofs.YtblodpbcinkehaaGreat
/-- The row. -/
theorem fnExactMove_holds : Rows.FnExactMoveSaid := K.gM
#print axioms fnExactMove_holds
end Go.Proofs.YtblodpbcinkehaaGreat
