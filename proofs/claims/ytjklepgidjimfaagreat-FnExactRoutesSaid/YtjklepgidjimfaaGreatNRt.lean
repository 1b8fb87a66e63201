/-
 Part of a proof. No conditions.
-/
import Derived.Test.YtjklepgidjimfaaGreatMRt
import Derived.Test.YtjklepgidjimfaaGreatRows
import Derived.Test.YtjklepgidjimfaaGreatT0
set_option linter.unusedVariables false
set_option linter.unusedSimpArgs false
set_option maxRecDepth 100000
set_option maxHeartbeats 1000000
namespace Go.Proofs.YtjklepgidjimfaaGreat.K
noncomputable section
open Go.ChangeShapes Go.WideShapes Go.ChangeAt Go.RowKit
theorem Dd {a b : Bool} (ha : a = true) (hb : b = true) : (a && b) = true := by rw [ha, hb]; rfl
theorem lS : Tryz.prog.closure 3 = [3, 8, 38, 105, 39, 106, 172, 9, 40, 11, 45, 117, 46, 118, 177, 240, 12, 47, 10, 41, 107, 173, 239, 174, 42, 264, 277, 265, 175, 44, 43, 108, 109, 110, 111, 114, 113, 112, 176, 115, 116, 13, 48, 77, 145, 199, 245, 146, 119, 120, 178, 241, 121, 179, 124, 180, 181, 242, 182, 183, 184, 187, 243, 266, 267, 278, 123, 186, 185, 122, 49, 125, 14, 50, 126, 188, 127, 189, 86, 128, 190, 129, 191, 15, 51, 130, 52, 131, 192, 244, 16, 53, 17, 54, 56, 55, 132, 18, 19, 57, 58, 59, 60, 61, 20, 62, 63, 64, 65, 66] := Vi dE (by as_aux_lemma => kernel_rfl)
theorem tW : Tryz.prog.inPlace 3 = Rows.fnExactRoutesRow.inPlace := by unfold Program.inPlace; rw [lS]; kernel_rfl
theorem sS : Tryz.prog.unfollowed 3 = true := by unfold Program.unfollowed; rw [lS]; kernel_rfl
theorem vA : Tryz.prog.varsNamed 3 = Rows.fnExactRoutesRow.named := by unfold Program.varsNamed; rw [lS]; kernel_rfl
theorem uT : Tryz.prog.recurses 3 = true := Rb sS
theorem u6 : Tryz.prog.make = some Rows.fnExactRoutesRow.make := ZO tU
set_option maxHeartbeats 4000000 in
theorem mR : joinedFacts Tryz.prog 3 Tryz.f3 Rows.fnExactRoutesSpec Rows.fnExactRoutesRow = true := by
  unfold joinedFacts
  rw [tW, sS, vA, uT, uA, tZ, u6]
  refine Dd (Dd (Dd (Dd (Dd (Dd (Dd (Dd (Dd (Dd (Dd (Dd (Dd (Dd (Dd (Dd (Dd (Dd (Dd (Dd (Dd (Dd (Dd (Dd (Dd (Dd (Dd (Dd (Dd (Dd (Dd (?_) ?_) ?_) ?_) ?_) ?_) ?_) ?_) ?_) ?_) ?_) ?_) ?_) ?_) ?_) ?_) ?_) ?_) ?_) ?_) ?_) ?_) ?_) ?_) ?_) ?_) ?_) ?_) ?_) ?_) ?_) ?_ <;> as_aux_lemma => kernel_rfl
set_option maxHeartbeats 4000000 in
theorem rB : Rows.fnExactRoutesRow.holds Tryz.pinned (OpenSpec.ofChange Rows.fnExactRoutesSpec) :=
  OpenClaim.holds_of_wide 3 Tryz.f3 rfl rfl rfl rfl rfl rfl rfl ⟨rfl, rfl, rfl, rfl, rfl⟩ rfl rfl rfl rfl rfl (by as_aux_lemma => kernel_rfl) Tryz.func3 mR
    (by as_aux_lemma => exact of_decide_eq_true (by kernel_rfl)) (by as_aux_lemma => unfold Func.isWrapper; first | (rw [if_pos (by decide +kernel)]; kernel_rfl) | (rw [if_neg (by decide +kernel)]; exact ⟨rfl, rfl⟩))
    (fun os started H enc _ => iT os started H enc)
end
end Go.Proofs.YtjklepgidjimfaaGreat.K
namespace Go.Proofs.YtjklepgidjimfaaGreat
/-- The row. -/
theorem fnExactRoutes_holds : Rows.FnExactRoutesSaid := K.rB
#print axioms fnExactRoutes_holds
end Go.Proofs.YtjklepgidjimfaaGreat
