/-
 Part of a proof. No conditions.
-/
import Derived.Test.YtjklepgidjimfaaGreatLRt
import Derived.Test.YtjklepgidjimfaaGreatRows
set_option linter.unusedVariables false
set_option linter.unusedSimpArgs false
set_option maxRecDepth 100000
set_option maxHeartbeats 1000000
namespace Go.Proofs.YtjklepgidjimfaaGreat.K
open _root_.Go.Proofs.Tryz renaming prog → dp
noncomputable section
open Go.ChangeShapes Go.WideShapes Go.ChangeAt Go.RowKit
theorem vN : Tryz.prog.follows .mixedOrders = true := by decide +kernel
theorem own : ownKnob Tryz.prog.godebug = none := by kernel_rfl
theorem mT : laidOutB dp = true := by kernel_rfl
end
noncomputable section
open Go.ChangeShapes Go.WideShapes Go.ChangeAt Go.RowKit
theorem iT (os : Os) (started : os.Started) (H : Type) (enc : TypeId × Value → H) :
    ReturnsInHanded {} Tryz.checked os 3 .any (Rows.fnExactRoutesSpec.pre6 enc dp Tryz.f3 Rows.fnExactRoutesRow.domain false) (Rows.fnExactRoutesSpec.post enc dp Tryz.f3 false true false false) := by
  refine returnsInHanded_of_change_sized (C := Tryz.checked) own started (by kernel_rfl) Tryz.func3
    (ChangeSpec.witness6 (enc := enc) (C := Tryz.checked) false ⟨#[], #[(Go.Value.agg #[(Go.Value.slice none 0 0), (Go.Value.slice none 0 0)]), (Go.Value.slice none 0 0), (Go.Value.int Go.IntKind.i64 0)], []⟩ 8 (by kernel_rfl) (by kernel_rfl) (by kernel_rfl) (by kernel_rfl)) ?_
  intro W base args ds gs before hval0 hW hcnd zn _
  have hW' := hW
  obtain ⟨p, q, hA0, hV, rfl, yu, yi⟩ := hW
  have hA : DataW.TrodAll enc dp W 0 (fun _ => true) true Tryz.f3.params.toList args.toList ds p := hA0
  rw [Tryz.params3] at hA
  obtain ⟨v0, v1, v2, d0, d1, d2, p0, p1, p2, rfl, rfl, rfl, h0, h1, h2⟩ := trodAll_three hA
  obtain ⟨rfl, rfl⟩ := trodVars_none hV
  have hlt0 : ∀ x ∈ p0, x.block < W.heap.size := fun x hx => hW'.lt x (by simp [hx])
  have k0 := h0
  obtain ⟨_, e0⟩ := h0
  obtain ⟨x0, r0, g0⟩ := uQ _ _ _ _ _ _ _ e0
  have s0 := tM (VZ Tryz.underlying25 (hval0 0 25 v0 (by rw [Tryz.params3]; rfl) rfl)) r0
  have ti : ∀ x ∈ p1, x.block < W.heap.size := fun x hx => hW'.lt x (by simp [hx])
  have k1 := h1
  obtain ⟨_, e1⟩ := h1
  obtain ⟨x1, r1, g1⟩ := uR _ _ _ _ _ _ _ e1
  have s1 := oQ (Tu (by rfl) (hval0 1 26 v1 (by rw [Tryz.params3]; rfl) rfl)) r1
  have hlt2 : ∀ x ∈ p2, x.block < W.heap.size := fun x hx => hW'.lt x (by simp [hx])
  have k2 := h2
  obtain ⟨_, e2⟩ := h2
  obtain ⟨x2, r2, g2⟩ := fG _ _ _ _ _ _ _ e2
  have s2 := oQ (Tu (by rfl) (hval0 2 3 v2 (by rw [Tryz.params3]; rfl) rfl)) r2
  refine (dD vN (ZJ s0 (ZJ s1 (ZJ s2 (oR _)))) (mE (tX x0 x1 x2 g0 g1 g2))).mono fun e W' ⟨he, hb⟩ => ?_
  subst he
  exact ⟨_, rfl, _, _, _, [], _, [], hW', trodAll_mk1 (shut_bool Tryz.underlying4 _), trodAll_mk3 (Below.trod mT (by kernel_rfl) (of_decide_eq_true (by kernel_rfl)) k0 hb hlt0) (Below.trod mT (by kernel_rfl) (of_decide_eq_true (by kernel_rfl)) k1 hb ti) (Below.trod mT (by kernel_rfl) (of_decide_eq_true (by kernel_rfl)) k2 hb hlt2), rfl, hb.frame _, fun h => by cases h⟩
end
end Go.Proofs.YtjklepgidjimfaaGreat.K
