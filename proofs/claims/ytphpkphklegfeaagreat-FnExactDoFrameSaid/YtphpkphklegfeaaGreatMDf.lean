/-
  The law FnExactDoFrame, called: it returns true and leaves its arguments as they were. No conditions.
-/
import Derived.Test.YtphpkphklegfeaaGreatLDf
import Derived.Test.YtphpkphklegfeaaGreatRows
set_option linter.unusedVariables false
set_option linter.unusedSimpArgs false
set_option maxRecDepth 100000
namespace Go.Proofs.YtphpkphklegfeaaGreat.K
open _root_.Go.Proofs.Tryz renaming prog → ai
noncomputable section
open Go.ChangeShapes Go.WideShapes Go.ChangeAt Go.RowKit
theorem rV : Tryz.prog.follows .mixedOrders = true := by decide +kernel
theorem own : ownKnob Tryz.prog.godebug = none := by kernel_rfl
theorem jW : laidOutB ai = true := by kernel_rfl
end
noncomputable section
open Go.ChangeShapes Go.WideShapes Go.ChangeAt Go.RowKit
theorem eK (os : Os) (started : os.Started) (H : Type) (enc : TypeId × Value → H) :
    ReturnsInHanded {} Tryz.checked os 5 .any (Rows.fnExactDoFrameSpec.pre6 enc ai Tryz.f5 Rows.fnExactDoFrameRow.domain false) (Rows.fnExactDoFrameSpec.post enc ai Tryz.f5 false true false false) := by
  refine returnsInHanded_of_change_sized (C := Tryz.checked) own started (by kernel_rfl) Tryz.func5
    (ChangeSpec.witness6 (enc := enc) (C := Tryz.checked) false ⟨#[], #[(Go.Value.agg #[(Go.Value.int Go.IntKind.i64 0), (Go.Value.slice none 0 0), (Go.Value.slice none 0 0), (Go.Value.slice none 0 0), (Go.Value.int Go.IntKind.i64 0)]), (Go.Value.agg #[(Go.Value.bool false), (Go.Value.slice none 0 0), (Go.Value.slice none 0 0), (Go.Value.slice none 0 0)]), (Go.Value.agg #[(Go.Value.int Go.IntKind.i64 0), (Go.Value.int Go.IntKind.i64 0), (Go.Value.int Go.IntKind.i64 0)])], []⟩ 8 (by kernel_rfl) (by kernel_rfl) (by kernel_rfl) (by kernel_rfl)) ?_
  intro W base args ds gs before hval0 hW hcnd hsz0 _
  have hW' := hW
  obtain ⟨p, q, hA0, hV, rfl, hfz, hnd⟩ := hW
  have hA : DataW.TrodAll enc ai W 0 (fun _ => true) true Tryz.f5.params.toList args.toList ds p := hA0
  rw [Tryz.params5] at hA
  obtain ⟨v0, v1, v2, d0, d1, d2, p0, p1, p2, rfl, rfl, rfl, h0, h1, h2⟩ := trodAll_three hA
  obtain ⟨rfl, rfl⟩ := trodVars_none hV
  have hlt0 : ∀ x ∈ p0, x.block < W.heap.size := fun x hx => hW'.lt x (by simp [hx])
  have k0 := h0
  obtain ⟨_, e0⟩ := h0
  obtain ⟨x0, r0, g0⟩ := r5 _ _ _ _ _ _ _ e0
  have s0 := iG (Km Tryz.underlying26 (hval0 0 26 v0 (by rw [Tryz.params5]; rfl) rfl)) r0
  have hlt1 : ∀ x ∈ p1, x.block < W.heap.size := fun x hx => hW'.lt x (by simp [hx])
  have k1 := h1
  obtain ⟨_, e1⟩ := h1
  obtain ⟨x1, r1, g1⟩ := r8 _ _ _ _ _ _ _ e1
  have s1 := iG (Km Tryz.underlying31 (hval0 1 31 v1 (by rw [Tryz.params5]; rfl) rfl)) r1
  have hlt2 : ∀ x ∈ p2, x.block < W.heap.size := fun x hx => hW'.lt x (by simp [hx])
  have k2 := h2
  obtain ⟨_, e2⟩ := h2
  obtain ⟨x2, r2, g2⟩ := rA _ _ _ _ _ _ _ e2
  have s2 := iG (Km Tryz.underlying57 (hval0 2 57 v2 (by rw [Tryz.params5]; rfl) rfl)) r2
  refine (ZX rV (YR s0 (YR s1 (YR s2 (mB _)))) (jF (qO x0 x1 x2 g0 g1 g2))).mono fun e W' ⟨he, hb⟩ => ?_
  subst he
  exact ⟨_, rfl, _, _, _, [], _, [], hW', trodAll_mk1 (shut_bool Tryz.underlying4 _), trodAll_mk3 (Below.trod jW (by kernel_rfl) (of_decide_eq_true (by kernel_rfl)) k0 hb hlt0) (Below.trod jW (by kernel_rfl) (of_decide_eq_true (by kernel_rfl)) k1 hb hlt1) (Below.trod jW (by kernel_rfl) (of_decide_eq_true (by kernel_rfl)) k2 hb hlt2), rfl, hb.frame _, fun h => by cases h⟩
end
end Go.Proofs.YtphpkphklegfeaaGreat.K
