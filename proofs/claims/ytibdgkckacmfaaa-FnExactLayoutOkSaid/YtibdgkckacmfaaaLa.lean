/-
  The law FnExactLayoutOk returns true at every input and leaves its argument as it was: the program's LayoutOk answers as the reference's. No conditions.
-/
import Derived.Test.YtibdgkckacmfaaaDa
import Derived.Test.YtibdgkckacmfaaaRows
set_option linter.unusedVariables false
set_option linter.unusedSimpArgs false
set_option maxRecDepth 100000
namespace Go.Proofs.Ytibdgkckacmfaaa.K
noncomputable section
theorem fol : Try.prog.follows .mixedOrders = true := by decide +kernel
abbrev fitCounter (x : Counter) : Prop := fitsI x.From ∧ fitsI x.To
theorem rd80 : Reads Try.prog 80 Counter fitCounter := by
  intro K enc W sp fuel cs d ps h
  obtain ⟨fu, hl, hf⟩ := trod_struct Try.underlying80 h
  have hl : cs.length = 2 := hl
  obtain ⟨_, _, h0⟩ := hf _ (by simp; exact Or.inl rfl)
  obtain ⟨_, _, h1⟩ := hf _ (by simp; exact Or.inr rfl)
  obtain ⟨x0, r0, g0⟩ := reads_int Try.underlying3 _ _ _ _ _ _ _ h0
  obtain ⟨x1, r1, g1⟩ := reads_int Try.underlying3 _ _ _ _ _ _ _ h1
  exact ⟨⟨x0, x1⟩, fld (off := 0) (sz := 1) r0 (fldLast (sz := 1) hl r1), g0, g1⟩
theorem rd23 : Reads Try.prog 23 (List Counter) (fitsL fitCounter) := reads_slice Try.underlying23 rfl rd80
abbrev fitLayout (x : Layout) : Prop := fitsI x.Sections ∧ fitsL fitCounter x.Counters
theorem rd25 : Reads Try.prog 25 Layout fitLayout := by
  intro K enc W sp fuel cs d ps h
  obtain ⟨fu, hl, hf⟩ := trod_struct Try.underlying25 h
  have hl : cs.length = 2 := hl
  obtain ⟨_, _, h0⟩ := hf _ (by simp; exact Or.inl rfl)
  obtain ⟨_, _, h1⟩ := hf _ (by simp; exact Or.inr rfl)
  obtain ⟨x0, r0, g0⟩ := reads_int Try.underlying3 _ _ _ _ _ _ _ h0
  obtain ⟨x1, r1, g1⟩ := rd23 _ _ _ _ _ _ _ h1
  exact ⟨⟨x0, x1⟩, fld (off := 0) (sz := 1) r0 (fldLast (sz := 1) hl r1), g0, g1⟩
theorem f33_spec {xs : List Counter} {left : Int} (h0 : 0 ≤ left) (h1 : left ≤ 1048576) (hx : xs.length ≤ 9223372036854775807) : ∃ v, f33 xs left = some v ∧ v ≤ left ∧ (v < 0 ∨ xs.length ≤ 1048576) := by
  unfold f33
  rw [w64_id ⟨by omega, by omega⟩]
  cases hb : decide ((left - (xs.length : Int)) < (0 : Int)) with
  | true => exact ⟨_, rfl, by omega, .inl (by decide)⟩
  | false =>
    simp only [decide_eq_false_iff_not] at hb
    exact ⟨_, rfl, by omega, .inr (by omega)⟩
theorem f9_spec {x : Layout} {left : Int} (h0 : 0 ≤ left) (h1 : left ≤ 1048576) (hx : fitLayout x) : ∃ v, f9 x left = some v ∧ v ≤ left ∧ (v < 0 ∨ x.Counters.length ≤ 1048576) := by
  unfold f9
  obtain ⟨v, e, h2, h3⟩ := f33_spec h0 h1 hx.2.1
  rw [e, Option.bind_some]
  cases hb : decide (v < (0 : Int)) with
  | true => exact ⟨_, rfl, by omega, .inl (by decide)⟩
  | false => exact ⟨_, rfl, h2, h3⟩
theorem f35_spec {xs : List Counter} (hx : xs.length ≤ 1048576) : f35 xs = some xs := by
  unfold f35
  rw [makeB_ok (by omega), Option.bind_some]
  have := fill xs (fun x => x) (⟨0, 0⟩ : Counter) (F := f35_L1 xs) (fun ys i x hi hy => ?_) (fun ys => ?_)
  · rw [List.map_id'] at this; exact this
  · have hlt := (List.getElem?_eq_some_iff.1 hi).1
    unfold f35_L1
    have hb : decide ((i : Int) < (xs.length : Int)) = true := by simp; exact hlt
    simp only [hb, cond_true, getI_nat, hi, Option.bind_some, f54]
    rw [List.getElem?_eq_getElem (by omega), Option.bind_some, w64_nat (by omega)]
    rfl
  · unfold f35_L1
    have hb : decide ((xs.length : Int) < (xs.length : Int)) = false := by simp
    simp only [hb, cond_false, Option.map_some]
theorem f11_spec {x : Layout} (hx : x.Counters.length ≤ 1048576) : f11 x = some x := by
  unfold f11
  rw [f35_spec hx]
  rfl
theorem f55_spec (x : Counter) : f55 x x = some true := by
  unfold f55
  simp
theorem f37_spec {xs : List Counter} (hx : xs.length ≤ 1048576) : f37 xs xs = some true := by
  unfold f37
  have hb : ((xs.length : Int) != (xs.length : Int)) = false := by simp
  rw [hb, cond_false]
  refine loopO_run (F := f37_L1 xs xs) xs.length (fun i => (i : Int)) (fun i hi => ?_) ?_
  · unfold f37_L1
    have hb : decide ((i : Int) < (xs.length : Int)) = true := by simp; exact hi
    simp only [hb, cond_true, getI_ok hi, Option.bind_some, f55_spec, Bool.not_true, cond_false]
    rw [w64_nat (by omega)]
  · unfold f37_L1
    have hb : decide ((xs.length : Int) < (xs.length : Int)) = false := by simp
    simp only [hb, cond_false, Option.map_some]
theorem f13_spec {x : Layout} (hx : x.Counters.length ≤ 1048576) : f13 x x = some true := by
  unfold f13
  have hb : (x.Sections != x.Sections) = false := by simp
  rw [hb, cond_false, f37_spec hx]
  rfl
theorem layoutOk_eq {x : Layout} (hx : fitLayout x) (hl : x.Counters.length ≤ 1048576) : ∃ r, f10 x = some r ∧ f12 x = some r := by
  unfold f10 f12
  simp only [f34, Option.bind_some]
  have e1 : (!(decide (x.Sections ≥ 1) && decide (x.Sections ≤ 60)) || decide ((x.Counters.length : Int) > 120)) = ((decide (x.Sections < 1) || decide (x.Sections > 60)) || decide ((x.Counters.length : Int) > 120)) := by
    have a1 : decide (x.Sections < 1) = !decide (x.Sections ≥ 1) := by rw [← decide_not]; congr 1; apply propext; omega
    have a2 : decide (x.Sections > 60) = !decide (x.Sections ≤ 60) := by rw [← decide_not]; congr 1; apply propext; omega
    rw [a1, a2, Bool.not_and]
  rw [e1]
  cases hb : ((decide (x.Sections < 1) || decide (x.Sections > 60)) || decide ((x.Counters.length : Int) > 120)) with
  | true => exact ⟨1, rfl, rfl⟩
  | false =>
    simp only [Bool.or_eq_false_iff, decide_eq_false_iff_not] at hb
    have e2 : f10_L1 x = f12_L1 x := by
      funext s
      unfold f10_L1 f12_L1
      simp only [f34, f36, Option.bind_some]
      rw [w64_id ⟨by omega, by omega⟩]
      have e3 : ∀ y : Int, decide (y ≤ x.Sections - 1) = decide (y < x.Sections) := by intro y; congr 1; apply propext; omega
      simp only [e3]
    rw [e2]
    simp only [cond_false]
    have key : ∃ r, loopO (f12_L1 x) (0 : Int) = some r ∧ True := by
      refine loopO_ex (F := f12_L1 x) (fun _ => True) x.Counters.length (fun i => (i : Int)) (fun i hi => ?_) ?_
      · unfold f12_L1
        have hb : decide ((i : Int) < (x.Counters.length : Int)) = true := by simp; exact hi
        simp only [hb, cond_true, getI_ok hi, Option.bind_some, f36]
        rw [w64_nat (by omega)]
        generalize (decide (x.Counters[i].From ≥ -1) && decide (x.Counters[i].From < x.Sections)) = b1
        generalize (decide (x.Counters[i].To ≥ -1) && decide (x.Counters[i].To < x.Sections)) = b2
        cases b1 <;> cases b2 <;> cases (x.Counters[i].From == x.Counters[i].To) <;> simp
      · unfold f12_L1
        have hb : decide ((x.Counters.length : Int) < (x.Counters.length : Int)) = false := by simp
        exact ⟨0, by simp only [hb, cond_false, Option.map_some], trivial⟩
    obtain ⟨r, h1, _⟩ := key
    exact ⟨r, h1, h1⟩
theorem law4 (x : Layout) (hx : fitLayout x) : f4 x = some true := by
  unfold f4
  obtain ⟨v, e, h1, h2⟩ := f9_spec (left := 1048576) (by omega) (by omega) hx
  rw [e, Option.bind_some]
  cases hb : decide (v < (0 : Int)) with
  | true => rfl
  | false =>
    simp only [decide_eq_false_iff_not] at hb
    have hl : x.Counters.length ≤ 1048576 := h2.resolve_left hb
    obtain ⟨r, h3, h4⟩ := layoutOk_eq hx hl
    simp only [cond_false, f11_spec hl, Option.bind_some, h3, h4, f13_spec hl, bne_self_eq_false, Bool.not_true]
open Go.ChangeShapes Go.WideShapes Go.ChangeAt Go.RowKit
theorem own : ownKnob Try.prog.godebug = none := by kernel_rfl
theorem laid : laidOutB Try.prog = true := by kernel_rfl
end
noncomputable section
open Go.ChangeShapes Go.WideShapes Go.ChangeAt Go.RowKit
theorem lifted4 (os : Os) (started : os.Started) (H : Type) (enc : TypeId × Value → H) :
    ReturnsInHanded {} Try.checked os 4 .any (Rows.fnExactLayoutOkSpec.pre6 enc Try.prog Try.f4 Rows.fnExactLayoutOkRow.domain false) (Rows.fnExactLayoutOkSpec.post enc Try.prog Try.f4 false true false false) := by
  refine returnsInHanded_of_change_sized (C := Try.checked) own started (by kernel_rfl) Try.func4
    (ChangeSpec.witness6 (enc := enc) (C := Try.checked) false ⟨#[], #[Value.agg #[.int .i64 0, .slice none 0 0]], []⟩ 8 (by kernel_rfl) (by kernel_rfl) (by kernel_rfl) (by kernel_rfl)) ?_
  intro W base args ds gs before hval0 hW hcnd hsz0 _
  have hW' := hW
  obtain ⟨p, q, hA0, hV, rfl, hfz, hnd⟩ := hW
  have hA : DataW.TrodAll enc Try.prog W 0 (fun _ => true) true Try.f4.params.toList args.toList ds p := hA0
  rw [Try.params4] at hA
  obtain ⟨v0, d0, rfl, rfl, h0⟩ := trodAll_one hA
  obtain ⟨rfl, rfl⟩ := trodVars_none hV
  have hlt : ∀ x ∈ p, x.block < W.heap.size := fun x hx => hW'.lt x (by simp [hx])
  have h0k := h0
  obtain ⟨_, e0⟩ := h0
  obtain ⟨x0, r0, g0⟩ := rd25 _ _ _ _ _ _ _ e0
  have s0 := arg_struct Try.underlying25 (hval0 0 25 v0 (by rw [Try.params4]; rfl) rfl)
  refine (law_walk fol (args1 (argA s0 r0) (args0 _)) (f4_run (law4 x0 g0))).mono fun e W' ⟨he, hb⟩ => ?_
  subst he
  exact ⟨_, rfl, _, _, _, [], _, [], hW', trodAll_mk1 (shut_bool Try.underlying4 _), trodAll_mk1 (Below.trod laid (by kernel_rfl) (of_decide_eq_true (by kernel_rfl)) h0k hb hlt), rfl, hb.frame _, fun h => by cases h⟩
theorem over4 : Rows.fnExactLayoutOkRow.holds Try.pinned (OpenSpec.ofChange Rows.fnExactLayoutOkSpec) :=
  OpenClaim.holds_of_wide 4 Try.f4 rfl rfl rfl rfl rfl rfl rfl ⟨rfl, rfl, rfl, rfl, rfl⟩ rfl rfl rfl rfl rfl (by kernel_rfl) Try.func4 (by kernel_rfl)
    (of_decide_eq_true (by kernel_rfl)) (by unfold Func.isWrapper; first | (rw [if_pos (by decide +kernel)]; kernel_rfl) | (rw [if_neg (by decide +kernel)]; exact ⟨rfl, rfl⟩))
    (fun os started H enc _ => lifted4 os started H enc)
end
end Go.Proofs.Ytibdgkckacmfaaa.K
namespace Go.Proofs.Ytibdgkckacmfaaa
/-- The row. -/
theorem fnExactLayoutOk_holds : Rows.FnExactLayoutOkSaid := K.over4
#print axioms fnExactLayoutOk_holds
end Go.Proofs.Ytibdgkckacmfaaa
