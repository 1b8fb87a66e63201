/-
  The law FnExactTurned, called: it returns true and leaves its arguments as they were. No conditions.
-/
import Derived.Test.YtblodpbcinkehaaLTu
import Derived.Test.YtblodpbcinkehaaRows
set_option linter.unusedVariables false
set_option linter.unusedSimpArgs false
set_option maxRecDepth 100000
namespace Go.Proofs.Ytblodpbcinkehaa.K
noncomputable section
open Go.ChangeShapes Go.WideShapes Go.ChangeAt Go.RowKit
theorem fol : Try.prog.follows .mixedOrders = true := by decide +kernel
theorem own : ownKnob Try.prog.godebug = none := by kernel_rfl
theorem laid : laidOutB Try.prog = true := by kernel_rfl
end
noncomputable section
open Go.ChangeShapes Go.WideShapes Go.ChangeAt Go.RowKit
theorem lifted3 (os : Os) (started : os.Started) (H : Type) (enc : TypeId × Value → H) :
    ReturnsInHanded {} Try.checked os 3 .any (Rows.fnExactTurnedSpec.pre6 enc Try.prog Try.f3 Rows.fnExactTurnedRow.domain false) (Rows.fnExactTurnedSpec.post enc Try.prog Try.f3 false true false false) := by
  refine returnsInHanded_of_change_sized (C := Try.checked) own started (by kernel_rfl) Try.func3
    (ChangeSpec.witness6 (enc := enc) (C := Try.checked) false ⟨#[], #[(Go.Value.agg #[(Go.Value.slice none 0 0), (Go.Value.slice none 0 0)]), (Go.Value.agg #[(Go.Value.int Go.IntKind.i64 0), (Go.Value.int Go.IntKind.i64 0), (Go.Value.int Go.IntKind.i64 0), (Go.Value.int Go.IntKind.i64 0), (Go.Value.slice none 0 0)])], []⟩ 8 (by kernel_rfl) (by kernel_rfl) (by kernel_rfl) (by kernel_rfl)) ?_
  intro W base args ds gs before hval0 hW hcnd hsz0 _
  have hW' := hW
  obtain ⟨p, q, hA0, hV, rfl, hfz, hnd⟩ := hW
  have hA : DataW.TrodAll enc Try.prog W 0 (fun _ => true) true Try.f3.params.toList args.toList ds p := hA0
  rw [Try.params3] at hA
  obtain ⟨v0, v1, d0, d1, p0, p1, rfl, rfl, rfl, h0, h1⟩ := trodAll_two hA
  obtain ⟨rfl, rfl⟩ := trodVars_none hV
  have hlt0 : ∀ x ∈ p0, x.block < W.heap.size := fun x hx => hW'.lt x (by simp [hx])
  have k0 := h0
  obtain ⟨_, e0⟩ := h0
  obtain ⟨x0, r0, g0⟩ := rd25 _ _ _ _ _ _ _ e0
  have s0 := argA (arg_struct Try.underlying25 (hval0 0 25 v0 (by rw [Try.params3]; rfl) rfl)) r0
  have hlt1 : ∀ x ∈ p1, x.block < W.heap.size := fun x hx => hW'.lt x (by simp [hx])
  have k1 := h1
  obtain ⟨_, e1⟩ := h1
  obtain ⟨x1, r1, g1⟩ := rd30 _ _ _ _ _ _ _ e1
  have s1 := argA (arg_struct Try.underlying30 (hval0 1 30 v1 (by rw [Try.params3]; rfl) rfl)) r1
  refine (law_walk fol (args1 s0 (args1 s1 (args0 _))) (f3_run (law3 x0 x1 g0 g1))).mono fun e W' ⟨he, hb⟩ => ?_
  subst he
  exact ⟨_, rfl, _, _, _, [], _, [], hW', trodAll_mk1 (shut_bool Try.underlying4 _), trodAll_mk2 (Below.trod laid (by kernel_rfl) (of_decide_eq_true (by kernel_rfl)) k0 hb hlt0) (Below.trod laid (by kernel_rfl) (of_decide_eq_true (by kernel_rfl)) k1 hb hlt1), rfl, hb.frame _, fun h => by cases h⟩
end
end Go.Proofs.Ytblodpbcinkehaa.K
