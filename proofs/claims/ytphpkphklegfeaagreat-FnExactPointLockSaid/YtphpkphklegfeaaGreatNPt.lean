/-
  The law FnExactPointLock returns true at every input and leaves its arguments as they were: the program answers as the reference does. No conditions.
-/
import Derived.Test.YtphpkphklegfeaaGreatMPt
import Derived.Test.YtphpkphklegfeaaGreatRows
import Derived.Test.YtphpkphklegfeaaGreatT0
set_option linter.unusedVariables false
set_option linter.unusedSimpArgs false
set_option maxRecDepth 100000
namespace Go.Proofs.YtphpkphklegfeaaGreat.K
noncomputable section
open Go.ChangeShapes Go.WideShapes Go.ChangeAt Go.RowKit
theorem D6 {a b : Bool} (ha : a = true) (hb : b = true) : (a && b) = true := by rw [ha, hb]; rfl
theorem bZ : Tryz.prog.closure 3 = [3, 6, 30, 31, 70, 103, 32, 33, 7, 34, 35, 71, 9, 39, 40, 76, 106, 121, 41, 42, 10, 43, 77, 44, 78, 8, 36, 72, 104, 37, 120, 128, 129, 89, 73, 61, 66, 93, 94, 65, 74, 38, 75, 105, 11, 45, 79, 107, 46, 122, 130, 91, 84, 114, 90, 113, 112, 127, 80, 108, 123, 131, 95, 115, 116, 117, 99, 119, 92, 97, 118, 98, 109, 124, 125, 47, 82, 81, 110, 83, 12, 13, 48, 85, 111, 126, 49, 50, 14, 51, 86, 52, 87, 15, 17, 53, 88, 54, 55, 16, 56, 57, 18] := Sy XY (by as_aux_lemma => kernel_rfl)
theorem kZ : Tryz.prog.inPlace 3 = Rows.fnExactPointLockRow.inPlace := by unfold Program.inPlace; rw [bZ]; kernel_rfl
theorem jX : Tryz.prog.unfollowed 3 = true := by unfold Program.unfollowed; rw [bZ]; kernel_rfl
theorem mD : Tryz.prog.varsNamed 3 = Rows.fnExactPointLockRow.named := by unfold Program.varsNamed; rw [bZ]; kernel_rfl
theorem lU : Tryz.prog.recurses 3 = true := PM jX
theorem lG : Tryz.prog.make = some Rows.fnExactPointLockRow.make := WN kY
set_option maxHeartbeats 4000000 in
theorem dK : joinedFacts Tryz.prog 3 Tryz.f3 Rows.fnExactPointLockSpec Rows.fnExactPointLockRow = true := by
  unfold joinedFacts
  rw [kZ, jX, mD, lU, lH, lD, lG]
  refine D6 (D6 (D6 (D6 (D6 (D6 (D6 (D6 (D6 (D6 (D6 (D6 (D6 (D6 (D6 (D6 (D6 (D6 (D6 (D6 (D6 (D6 (D6 (D6 (D6 (D6 (D6 (D6 (D6 (D6 (D6 (?_) ?_) ?_) ?_) ?_) ?_) ?_) ?_) ?_) ?_) ?_) ?_) ?_) ?_) ?_) ?_) ?_) ?_) ?_) ?_) ?_) ?_) ?_) ?_) ?_) ?_) ?_) ?_) ?_) ?_) ?_) ?_ <;> as_aux_lemma => kernel_rfl
set_option maxHeartbeats 4000000 in
theorem iQ : Rows.fnExactPointLockRow.holds Tryz.pinned (OpenSpec.ofChange Rows.fnExactPointLockSpec) :=
  OpenClaim.holds_of_wide 3 Tryz.f3 rfl rfl rfl rfl rfl rfl rfl ⟨rfl, rfl, rfl, rfl, rfl⟩ rfl rfl rfl rfl rfl (by as_aux_lemma => kernel_rfl) Tryz.func3 dK
    (by as_aux_lemma => exact of_decide_eq_true (by kernel_rfl)) (by as_aux_lemma => unfold Func.isWrapper; first | (rw [if_pos (by decide +kernel)]; kernel_rfl) | (rw [if_neg (by decide +kernel)]; exact ⟨rfl, rfl⟩))
    (fun os started H enc _ => Zi os started H enc)
end
end Go.Proofs.YtphpkphklegfeaaGreat.K
namespace Go.Proofs.YtphpkphklegfeaaGreat
/-- The row. -/
theorem fnExactPointLock_holds : Rows.FnExactPointLockSaid := K.iQ
#print axioms fnExactPointLock_holds
end Go.Proofs.YtphpkphklegfeaaGreat
