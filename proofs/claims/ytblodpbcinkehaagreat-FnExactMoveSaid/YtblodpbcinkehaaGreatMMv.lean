/-
  The law FnExactMove, called: it returns true and leaves its arguments as they were. No conditions.
-/
import Derived.Test.YtblodpbcinkehaaGreatLMv
import Derived.Test.YtblodpbcinkehaaGreatRows
set_option linter.unusedVariables false
set_option linter.unusedSimpArgs false
set_option maxRecDepth 100000
namespace Go.Proofs.YtblodpbcinkehaaGreat.K
open _root_.Go.Proofs.Tryz renaming prog → ah
noncomputable section
open Go.ChangeShapes Go.WideShapes Go.ChangeAt Go.RowKit
theorem l9 : Tryz.prog.follows .mixedOrders = true := by decide +kernel
theorem own : ownKnob Tryz.prog.godebug = none := by kernel_rfl
theorem Yt : laidOutB ah = true := by kernel_rfl
end
noncomputable section
open Go.ChangeShapes Go.WideShapes Go.ChangeAt Go.RowKit
theorem Yu (os : Os) (started : os.Started) (H : Type) (enc : TypeId × Value → H) :
    ReturnsInHanded {} Tryz.checked os 3 .any (Rows.fnExactMoveSpec.pre6 enc ah Tryz.f3 Rows.fnExactMoveRow.domain false) (Rows.fnExactMoveSpec.post enc ah Tryz.f3 false true false false) := by
  refine returnsInHanded_of_change_sized (C := Tryz.checked) own started (by kernel_rfl) Tryz.func3
    (ChangeSpec.witness6 (enc := enc) (C := Tryz.checked) false ⟨#[], #[(Go.Value.agg #[(Go.Value.slice none 0 0), (Go.Value.slice none 0 0)]), (Go.Value.slice none 0 0), (Go.Value.agg #[(Go.Value.int Go.IntKind.i64 0), (Go.Value.int Go.IntKind.i64 0), (Go.Value.int Go.IntKind.i64 0), (Go.Value.int Go.IntKind.i64 0), (Go.Value.slice none 0 0)]), (Go.Value.int Go.IntKind.i64 0)], []⟩ 8 (by kernel_rfl) (by kernel_rfl) (by kernel_rfl) (by kernel_rfl)) ?_
  intro W base args ds gs before hval0 hW hcnd hsz0 _
  have hW' := hW
  obtain ⟨p, q, hA0, hV, rfl, hfz, hnd⟩ := hW
  have hA : DataW.TrodAll enc ah W 0 (fun _ => true) true Tryz.f3.params.toList args.toList ds p := hA0
  rw [Tryz.params3] at hA
  obtain ⟨v0, v1, v2, v3, d0, d1, d2, d3, p0, p1, p2, p3, rfl, rfl, rfl, h0, h1, h2, h3⟩ := trodAll_four hA
  obtain ⟨rfl, rfl⟩ := trodVars_none hV
  have hlt0 : ∀ x ∈ p0, x.block < W.heap.size := fun x hx => hW'.lt x (by simp [hx])
  have k0 := h0
  obtain ⟨_, e0⟩ := h0
  obtain ⟨x0, r0, g0⟩ := kB _ _ _ _ _ _ _ e0
  have s0 := dR (MY Tryz.underlying25 (hval0 0 25 v0 (by rw [Tryz.params3]; rfl) rfl)) r0
  have hlt1 : ∀ x ∈ p1, x.block < W.heap.size := fun x hx => hW'.lt x (by simp [hx])
  have k1 := h1
  obtain ⟨_, e1⟩ := h1
  obtain ⟨x1, r1, g1⟩ := kC _ _ _ _ _ _ _ e1
  have s1 := dQ (Qs (by rfl) (hval0 1 26 v1 (by rw [Tryz.params3]; rfl) rfl)) r1
  have hlt2 : ∀ x ∈ p2, x.block < W.heap.size := fun x hx => hW'.lt x (by simp [hx])
  have k2 := h2
  obtain ⟨_, e2⟩ := h2
  obtain ⟨x2, r2, g2⟩ := kF _ _ _ _ _ _ _ e2
  have s2 := dR (MY Tryz.underlying31 (hval0 2 31 v2 (by rw [Tryz.params3]; rfl) rfl)) r2
  have hlt3 : ∀ x ∈ p3, x.block < W.heap.size := fun x hx => hW'.lt x (by simp [hx])
  have k3 := h3
  obtain ⟨_, e3⟩ := h3
  obtain ⟨x3, r3, g3⟩ := UD _ _ _ _ _ _ _ e3
  have s3 := dQ (Qs (by rfl) (hval0 3 3 v3 (by rw [Tryz.params3]; rfl) rfl)) r3
  refine (WX l9 (TX s0 (TX s1 (TX s2 (TX s3 (dS _))))) (aH (jP x0 x1 x2 x3 g0 g1 g2 g3))).mono fun e W' ⟨he, hb⟩ => ?_
  subst he
  exact ⟨_, rfl, _, _, _, [], _, [], hW', trodAll_mk1 (shut_bool Tryz.underlying4 _), trodAll_mk4 (Below.trod Yt (by kernel_rfl) (of_decide_eq_true (by kernel_rfl)) k0 hb hlt0) (Below.trod Yt (by kernel_rfl) (of_decide_eq_true (by kernel_rfl)) k1 hb hlt1) (Below.trod Yt (by kernel_rfl) (of_decide_eq_true (by kernel_rfl)) k2 hb hlt2) (Below.trod Yt (by kernel_rfl) (of_decide_eq_true (by kernel_rfl)) k3 hb hlt3), rfl, hb.frame _, fun h => by cases h⟩
end
end Go.Proofs.YtblodpbcinkehaaGreat.K
