/-
  The law FnExactDoFrame returns true at every input and leaves its arguments as they were: the program answers as the reference does. No conditions.
-/
import Derived.Test.YtphpkphklegfeaaGreatMDf
import Derived.Test.YtphpkphklegfeaaGreatRows
import Derived.Test.YtphpkphklegfeaaGreatT0
set_option linter.unusedVariables false
set_option linter.unusedSimpArgs false
set_option maxRecDepth 100000
namespace Go.Proofs.YtphpkphklegfeaaGreat.K
noncomputable section
open Go.ChangeShapes Go.WideShapes Go.ChangeAt Go.RowKit
theorem DR {a b : Bool} (ha : a = true) (hb : b = true) : (a && b) = true := by rw [ha, hb]; rfl
theorem iK : Tryz.prog.closure 5 = [5, 6, 30, 31, 70, 103, 32, 33, 7, 34, 35, 71, 9, 39, 40, 76, 106, 121, 41, 42, 10, 43, 77, 44, 78, 25, 24, 36, 72, 104, 37, 120, 128, 129, 89, 73, 61, 66, 93, 94, 65, 74, 60, 62, 58, 38, 75, 105, 63, 64, 26, 45, 79, 107, 46, 122, 130, 91, 84, 114, 90, 113, 112, 127, 80, 108, 123, 131, 95, 115, 116, 117, 99, 119, 92, 97, 118, 98, 109, 124, 125, 67, 68, 96, 59, 47, 82, 81, 110, 83, 27, 14, 50, 51, 86, 52, 87, 13, 12, 48, 85, 111, 126, 49, 15, 17, 53, 88, 54, 55, 16, 56, 57, 28, 29, 69, 100, 101, 102] := Uq ZZ (by as_aux_lemma => kernel_rfl)
theorem qN : Tryz.prog.inPlace 5 = Rows.fnExactDoFrameRow.inPlace := by unfold Program.inPlace; rw [iK]; kernel_rfl
theorem pO : Tryz.prog.unfollowed 5 = true := by unfold Program.unfollowed; rw [iK]; kernel_rfl
theorem rM : Tryz.prog.varsNamed 5 = Rows.fnExactDoFrameRow.named := by unfold Program.varsNamed; rw [iK]; kernel_rfl
theorem rB : Tryz.prog.recurses 5 = true := R3 pO
theorem qT : Tryz.prog.make = some Rows.fnExactDoFrameRow.make := YW qM
set_option maxHeartbeats 4000000 in
theorem jU : joinedFacts Tryz.prog 5 Tryz.f5 Rows.fnExactDoFrameSpec Rows.fnExactDoFrameRow = true := by
  unfold joinedFacts
  rw [qN, pO, rM, rB, qU, qQ, qT]
  refine DR (DR (DR (DR (DR (DR (DR (DR (DR (DR (DR (DR (DR (DR (DR (DR (DR (DR (DR (DR (DR (DR (DR (DR (DR (DR (DR (DR (DR (DR (DR (?_) ?_) ?_) ?_) ?_) ?_) ?_) ?_) ?_) ?_) ?_) ?_) ?_) ?_) ?_) ?_) ?_) ?_) ?_) ?_) ?_) ?_) ?_) ?_) ?_) ?_) ?_) ?_) ?_) ?_) ?_) ?_ <;> as_aux_lemma => kernel_rfl
set_option maxHeartbeats 4000000 in
theorem oA : Rows.fnExactDoFrameRow.holds Tryz.pinned (OpenSpec.ofChange Rows.fnExactDoFrameSpec) :=
  OpenClaim.holds_of_wide 5 Tryz.f5 rfl rfl rfl rfl rfl rfl rfl ⟨rfl, rfl, rfl, rfl, rfl⟩ rfl rfl rfl rfl rfl (by as_aux_lemma => kernel_rfl) Tryz.func5 jU
    (by as_aux_lemma => exact of_decide_eq_true (by kernel_rfl)) (by as_aux_lemma => unfold Func.isWrapper; first | (rw [if_pos (by decide +kernel)]; kernel_rfl) | (rw [if_neg (by decide +kernel)]; exact ⟨rfl, rfl⟩))
    (fun os started H enc _ => eK os started H enc)
end
end Go.Proofs.YtphpkphklegfeaaGreat.K
namespace Go.Proofs.YtphpkphklegfeaaGreat
/-- The row. -/
theorem fnExactDoFrame_holds : Rows.FnExactDoFrameSaid := K.oA
#print axioms fnExactDoFrame_holds
end Go.Proofs.YtphpkphklegfeaaGreat
