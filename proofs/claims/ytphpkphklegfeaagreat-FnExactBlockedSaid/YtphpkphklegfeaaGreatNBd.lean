/-
  The law FnExactBlocked returns true at every input and leaves its arguments as they were: the program answers as the reference does. No conditions.
-/
import Derived.Test.YtphpkphklegfeaaGreatMBd
import Derived.Test.YtphpkphklegfeaaGreatRows
import Derived.Test.YtphpkphklegfeaaGreatT0
set_option linter.unusedVariables false
set_option linter.unusedSimpArgs false
set_option maxRecDepth 100000
namespace Go.Proofs.YtphpkphklegfeaaGreat.K
noncomputable section
open Go.ChangeShapes Go.WideShapes Go.ChangeAt Go.RowKit
theorem D8 {a b : Bool} (ha : a = true) (hb : b = true) : (a && b) = true := by rw [ha, hb]; rfl
theorem dR : Tryz.prog.closure 4 = [4, 6, 30, 31, 70, 103, 32, 33, 7, 34, 35, 71, 9, 39, 40, 76, 106, 121, 41, 42, 10, 43, 77, 44, 78, 19, 36, 72, 104, 37, 120, 128, 129, 89, 73, 61, 66, 93, 94, 65, 74, 58, 38, 75, 105, 20, 45, 79, 107, 46, 122, 130, 91, 84, 114, 90, 113, 112, 127, 80, 108, 123, 131, 95, 115, 116, 117, 99, 119, 92, 97, 118, 98, 109, 124, 125, 59, 47, 82, 81, 110, 83, 21, 12, 13, 48, 85, 111, 126, 49, 50, 14, 51, 86, 52, 87, 15, 17, 53, 88, 54, 55, 16, 56, 57, 22, 23, 18] := To YA (by as_aux_lemma => kernel_rfl)
theorem mP : Tryz.prog.inPlace 4 = Rows.fnExactBlockedRow.inPlace := by unfold Program.inPlace; rw [dR]; kernel_rfl
theorem lP : Tryz.prog.unfollowed 4 = true := by unfold Program.unfollowed; rw [dR]; kernel_rfl
theorem nP : Tryz.prog.varsNamed 4 = Rows.fnExactBlockedRow.named := by unfold Program.varsNamed; rw [dR]; kernel_rfl
theorem nE : Tryz.prog.recurses 4 = true := Q8 lP
theorem mV : Tryz.prog.make = some Rows.fnExactBlockedRow.make := XD mO
set_option maxHeartbeats 4000000 in
theorem fB : joinedFacts Tryz.prog 4 Tryz.f4 Rows.fnExactBlockedSpec Rows.fnExactBlockedRow = true := by
  unfold joinedFacts
  rw [mP, lP, nP, nE, mW, mS, mV]
  refine D8 (D8 (D8 (D8 (D8 (D8 (D8 (D8 (D8 (D8 (D8 (D8 (D8 (D8 (D8 (D8 (D8 (D8 (D8 (D8 (D8 (D8 (D8 (D8 (D8 (D8 (D8 (D8 (D8 (D8 (D8 (?_) ?_) ?_) ?_) ?_) ?_) ?_) ?_) ?_) ?_) ?_) ?_) ?_) ?_) ?_) ?_) ?_) ?_) ?_) ?_) ?_) ?_) ?_) ?_) ?_) ?_) ?_) ?_) ?_) ?_) ?_) ?_ <;> as_aux_lemma => kernel_rfl
set_option maxHeartbeats 4000000 in
theorem kF : Rows.fnExactBlockedRow.holds Tryz.pinned (OpenSpec.ofChange Rows.fnExactBlockedSpec) :=
  OpenClaim.holds_of_wide 4 Tryz.f4 rfl rfl rfl rfl rfl rfl rfl ⟨rfl, rfl, rfl, rfl, rfl⟩ rfl rfl rfl rfl rfl (by as_aux_lemma => kernel_rfl) Tryz.func4 fB
    (by as_aux_lemma => exact of_decide_eq_true (by kernel_rfl)) (by as_aux_lemma => unfold Func.isWrapper; first | (rw [if_pos (by decide +kernel)]; kernel_rfl) | (rw [if_neg (by decide +kernel)]; exact ⟨rfl, rfl⟩))
    (fun os started H enc _ => aU os started H enc)
end
end Go.Proofs.YtphpkphklegfeaaGreat.K
namespace Go.Proofs.YtphpkphklegfeaaGreat
/-- The row. -/
theorem fnExactBlocked_holds : Rows.FnExactBlockedSaid := K.kF
#print axioms fnExactBlocked_holds
end Go.Proofs.YtphpkphklegfeaaGreat
