/-
  The law FnExactRowOk returns true at every input and leaves its arguments as they were: the program answers as the reference does. No conditions.
-/
import Derived.Test.YtibdgkckacmfaaaDd
import Derived.Test.YtibdgkckacmfaaaRows
set_option linter.unusedVariables false
set_option linter.unusedSimpArgs false
set_option maxRecDepth 100000
namespace Go.Proofs.Ytibdgkckacmfaaa.K
noncomputable section
open Go.ChangeShapes Go.WideShapes Go.ChangeAt Go.RowKit
theorem fol : Try.prog.follows .mixedOrders = true := by decide +kernel
theorem own : ownKnob Try.prog.godebug = none := by kernel_rfl
theorem laid : laidOutB Try.prog = true := by kernel_rfl
abbrev fitRow (x : Row) : Prop := (fitsL fitsI) x.Next ∧ (fitsL fitsI) x.Far ∧ (fitsL (fun _ => True)) x.Open ∧ (fitsL (fitsL (fun _ => True))) x.Works
abbrev smRow (x : Row) : Prop := (smL (fun _ => True)) x.Next ∧ (smL (fun _ => True)) x.Far ∧ (smL (fun _ => True)) x.Open ∧ (smL (smL (fun _ => True))) x.Works
theorem rd3 : Reads Try.prog 3 Int fitsI := reads_int Try.underlying3
theorem rd40 : Reads Try.prog 40 (List Int) (fitsL fitsI) := reads_slice Try.underlying40 rfl rd3
theorem rd4 : Reads Try.prog 4 Bool (fun _ => True) := reads_bool Try.underlying4
theorem rd46 : Reads Try.prog 46 (List Bool) (fitsL (fun _ => True)) := reads_slice Try.underlying46 rfl rd4
theorem rd47 : Reads Try.prog 47 (List (List Bool)) (fitsL (fitsL (fun _ => True))) := reads_slice Try.underlying47 rfl rd46
theorem rd49 : Reads Try.prog 49 Row fitRow := by
  intro K enc W sp fuel cs d ps h
  obtain ⟨fu, hl, hf⟩ := trod_struct Try.underlying49 h
  have hl : cs.length = 4 := hl
  obtain ⟨_, _, h0⟩ := hf _ (List.Mem.head _)
  obtain ⟨x0, r0, g0⟩ := rd40 _ _ _ _ _ _ _ h0
  obtain ⟨_, _, h1⟩ := hf _ (List.Mem.tail _ (List.Mem.head _))
  obtain ⟨x1, r1, g1⟩ := rd40 _ _ _ _ _ _ _ h1
  obtain ⟨_, _, h2⟩ := hf _ (List.Mem.tail _ (List.Mem.tail _ (List.Mem.head _)))
  obtain ⟨x2, r2, g2⟩ := rd46 _ _ _ _ _ _ _ h2
  obtain ⟨_, _, h3⟩ := hf _ (List.Mem.tail _ (List.Mem.tail _ (List.Mem.tail _ (List.Mem.head _))))
  obtain ⟨x3, r3, g3⟩ := rd47 _ _ _ _ _ _ _ h3
  exact ⟨⟨x0, x1, x2, x3⟩, fld (off := 0) (sz := 1) r0 (fld (off := 1) (sz := 1) r1 (fld (off := 2) (sz := 1) r2 (fldLast (sz := 1) hl r3))), g0, g1, g2, g3⟩
theorem f39_sz {x : List Int} {left : Int} (h0 : 0 ≤ left) (h1 : left ≤ 1048576) (hx : (fitsL fitsI) x) : ∃ v, f39 x left = some v ∧ v ≤ left ∧ (v < 0 ∨ (smL (fun _ => True)) x) := by
  unfold f39
  obtain ⟨v, e1, e2, e3⟩ := sz_flat (xs := x) h0 h1 hx.1
  exact ⟨v, e1, e2, e3.imp id fun h => ⟨h.1, fun _ _ => trivial⟩⟩
theorem f40_sz {x : List Bool} {left : Int} (h0 : 0 ≤ left) (h1 : left ≤ 1048576) (hx : (fitsL (fun _ => True)) x) : ∃ v, f40 x left = some v ∧ v ≤ left ∧ (v < 0 ∨ (smL (fun _ => True)) x) := by
  unfold f40
  obtain ⟨v, e1, e2, e3⟩ := sz_flat (xs := x) h0 h1 hx.1
  exact ⟨v, e1, e2, e3.imp id fun h => ⟨h.1, fun _ _ => trivial⟩⟩
theorem f41_sz {x : List (List Bool)} {left : Int} (h0 : 0 ≤ left) (h1 : left ≤ 1048576) (hx : (fitsL (fitsL (fun _ => True))) x) : ∃ v, f41 x left = some v ∧ v ≤ left ∧ (v < 0 ∨ (smL (smL (fun _ => True))) x) := by
  unfold f41
  refine sz_deep (g := f40) (fit := (fitsL (fun _ => True))) (sm := (smL (fun _ => True))) (fun x l a b c => f40_sz b c a) (fun l i x hi => ?_) (fun l => ?_) h0 h1 hx
  · unfold f41_L1
    simp only [lt_t (get_lt hi), cond_true, getI_nat, hi, Option.bind_some, Option.map_some]
  · unfold f41_L1
    simp only [lt_f, cond_false, Option.map_some]
theorem f23_sz {x : Row} {left : Int} (h0 : 0 ≤ left) (h1 : left ≤ 1048576) (hx : fitRow x) : ∃ v, f23 x left = some v ∧ v ≤ left ∧ (v < 0 ∨ smRow x) := by
  unfold f23
  obtain ⟨v0, e0, a0, b0⟩ := f39_sz (x := x.Next) (left := left) (by omega) (by omega) hx.1
  rw [e0, Option.bind_some]
  rcases Bool.eq_false_or_eq_true (decide (v0 < (0 : Int))) with hb0 | hb0
  · rw [hb0]; exact ⟨_, rfl, by omega, .inl (by decide)⟩
  rw [hb0, cond_false]; simp only [decide_eq_false_iff_not] at hb0
  obtain ⟨v1, e1, a1, b1⟩ := f39_sz (x := x.Far) (left := v0) (by omega) (by omega) hx.2.1
  rw [e1, Option.bind_some]
  rcases Bool.eq_false_or_eq_true (decide (v1 < (0 : Int))) with hb1 | hb1
  · rw [hb1]; exact ⟨_, rfl, by omega, .inl (by decide)⟩
  rw [hb1, cond_false]; simp only [decide_eq_false_iff_not] at hb1
  obtain ⟨v2, e2, a2, b2⟩ := f40_sz (x := x.Open) (left := v1) (by omega) (by omega) hx.2.2.1
  rw [e2, Option.bind_some]
  rcases Bool.eq_false_or_eq_true (decide (v2 < (0 : Int))) with hb2 | hb2
  · rw [hb2]; exact ⟨_, rfl, by omega, .inl (by decide)⟩
  rw [hb2, cond_false]; simp only [decide_eq_false_iff_not] at hb2
  obtain ⟨v3, e3, a3, b3⟩ := f41_sz (x := x.Works) (left := v2) (by omega) (by omega) hx.2.2.2
  rw [e3, Option.bind_some]
  rcases Bool.eq_false_or_eq_true (decide (v3 < (0 : Int))) with hb3 | hb3
  · rw [hb3]; exact ⟨_, rfl, by omega, .inl (by decide)⟩
  rw [hb3, cond_false]; simp only [decide_eq_false_iff_not] at hb3
  exact ⟨_, rfl, by omega, .inr ⟨b0.resolve_left hb0, b1.resolve_left hb1, b2.resolve_left hb2, b3.resolve_left hb3⟩⟩
theorem f43_to {x : List Int} (hx : (smL (fun _ => True)) x) : f43 x = some x := by
  have hl := hx.1
  unfold f43
  rw [makeB_ok (by omega), Option.bind_some]
  have := fill x (fun y => y) (0 : Int) (F := f43_L1 x) (fun ys i y hi hy => ?_) (fun ys => ?_)
  · rw [List.map_id'] at this; exact this
  · have hlt := get_lt hi
    unfold f43_L1
    simp only [lt_t (get_lt hi), cond_true, getI_nat, hi, Option.bind_some]
    rw [List.getElem?_eq_getElem (by omega), Option.bind_some, w64_nat (by omega)]
    rfl
  · unfold f43_L1
    simp only [lt_f, cond_false, Option.map_some]
theorem f44_to {x : List Bool} (hx : (smL (fun _ => True)) x) : f44 x = some x := by
  have hl := hx.1
  unfold f44
  rw [makeB_ok (by omega), Option.bind_some]
  have := fill x (fun y => y) (false : Bool) (F := f44_L1 x) (fun ys i y hi hy => ?_) (fun ys => ?_)
  · rw [List.map_id'] at this; exact this
  · have hlt := get_lt hi
    unfold f44_L1
    simp only [lt_t (get_lt hi), cond_true, getI_nat, hi, Option.bind_some]
    rw [List.getElem?_eq_getElem (by omega), Option.bind_some, w64_nat (by omega)]
    rfl
  · unfold f44_L1
    simp only [lt_f, cond_false, Option.map_some]
theorem f45_to {x : List (List Bool)} (hx : (smL (smL (fun _ => True))) x) : f45 x = some x := by
  have hl := hx.1
  unfold f45
  rw [makeB_ok (by omega), Option.bind_some]
  have := fill x (fun y => y) ([] : List Bool) (F := f45_L1 x) (fun ys i y hi hy => ?_) (fun ys => ?_)
  · rw [List.map_id'] at this; exact this
  · have hlt := get_lt hi
    unfold f45_L1
    have hg := f44_to (x := y) (hx.2 _ (List.mem_of_getElem? hi))
    simp only [lt_t (get_lt hi), cond_true, getI_nat, hi, Option.bind_some, hg]
    rw [List.getElem?_eq_getElem (by omega), Option.bind_some, w64_nat (by omega)]
    rfl
  · unfold f45_L1
    simp only [lt_f, cond_false, Option.map_some]
theorem f25_to {x : Row} (hx : smRow x) : f25 x = some x := by
  unfold f25
  rw [f43_to (x := x.Next) hx.1, f43_to (x := x.Far) hx.2.1, f44_to (x := x.Open) hx.2.2.1, f45_to (x := x.Works) hx.2.2.2]
  rfl
theorem f19_eq {x : List Int} (hx : (smL (fun _ => True)) x) : f19 x x = some true := by
  unfold f19
  simp only [bne_self_eq_false, cond_false]
  refine eq_all (F := f19_L1 x x) hx.1 (fun i y hi => ?_) ?_
  · unfold f19_L1
    simp only [lt_t (get_lt hi), cond_true, getI_nat, hi, Option.bind_some, bne_self_eq_false, beq_self_eq_true, Bool.not_true, cond_false]
  · unfold f19_L1
    simp only [lt_f, cond_false, Option.map_some]
theorem f47_eq {x : List Bool} (hx : (smL (fun _ => True)) x) : f47 x x = some true := by
  unfold f47
  simp only [bne_self_eq_false, cond_false]
  refine eq_all (F := f47_L1 x x) hx.1 (fun i y hi => ?_) ?_
  · unfold f47_L1
    simp only [lt_t (get_lt hi), cond_true, getI_nat, hi, Option.bind_some, bne_self_eq_false, beq_self_eq_true, Bool.not_true, cond_false]
  · unfold f47_L1
    simp only [lt_f, cond_false, Option.map_some]
theorem f48_eq {x : List (List Bool)} (hx : (smL (smL (fun _ => True))) x) : f48 x x = some true := by
  unfold f48
  simp only [bne_self_eq_false, cond_false]
  refine eq_all (F := f48_L1 x x) hx.1 (fun i y hi => ?_) ?_
  · unfold f48_L1
    have hg := f47_eq (x := y) (hx.2 _ (List.mem_of_getElem? hi))
    simp only [lt_t (get_lt hi), cond_true, getI_nat, hi, Option.bind_some, hg, Bool.not_true, cond_false]
  · unfold f48_L1
    simp only [lt_f, cond_false, Option.map_some]
theorem f27_eq {x : Row} (hx : smRow x) : f27 x x = some true := by
  unfold f27
  simp only [bne_self_eq_false, beq_self_eq_true, Bool.not_true, cond_false, f19_eq (x := x.Next) hx.1, f19_eq (x := x.Far) hx.2.1, f47_eq (x := x.Open) hx.2.2.1, f48_eq (x := x.Works) hx.2.2.2, Option.bind_some]
theorem rowOk_eq {x : Row} (hx : fitRow x) (hs : smRow x) : ∃ r, f24 x = some r ∧ f26 x = some r := by
  unfold f24 f26
  rcases Bool.eq_false_or_eq_true (((decide ((x.Next.length : Int) > (60 : Int)) || ((x.Far.length : Int) != (x.Next.length : Int))) || ((x.Open.length : Int) != (x.Next.length : Int))) || ((x.Works.length : Int) != (x.Next.length : Int))) with hb | hb
  · rw [hb]; exact ⟨_, rfl, rfl⟩
  rw [hb]
  simp only [Bool.or_eq_false_iff, decide_eq_false_iff_not, bne_eq_false_iff_eq] at hb
  obtain ⟨⟨⟨hb1, hb2⟩, hb3⟩, hb4⟩ := hb
  have e2 : f24_L2 x = f26_L2 x := rfl
  have e1 : f24_L1 x = f26_L1 x := by
    funext s
    unfold f24_L1 f26_L1
    simp only [f42, f46, e2]
  rw [e1]
  simp only [cond_false]
  have k2 : ∃ r, loopO (f26_L2 x) (0 : Int) = some r ∧ True := by
    refine loopO_ex (F := f26_L2 x) (fun _ => True) x.Works.length (fun i => (i : Int)) (fun i hi => ?_) ?_
    · unfold f26_L2
      simp only [lt_t hi, cond_true, getI_ok hi, Option.bind_some]
      rw [w64_nat (by omega)]
      cases ((x.Works[i].length : Int) != (4 : Int)) <;> simp
    · unfold f26_L2
      exact ⟨0, by simp only [lt_f, cond_false, Option.map_some], trivial⟩
  obtain ⟨r2, k2, _⟩ := k2
  have k1 : ∃ r, loopO (f26_L1 x) (0 : Int) = some r ∧ True := by
    refine loopO_ex (F := f26_L1 x) (fun _ => True) x.Next.length (fun i => (i : Int)) (fun i hi => ?_) ?_
    · unfold f26_L1
      have hi2 : i < x.Far.length := by omega
      simp only [lt_t hi, cond_true, getI_ok hi, getI_ok hi2, Option.bind_some, f46]
      rw [w64_nat (by omega)]
      generalize (decide (x.Next[i] ≥ -1) && decide (x.Next[i] ≤ w64 ((x.Next.length : Int) - 1))) = b1
      generalize (decide (x.Far[i] ≥ 0) && decide (x.Far[i] ≤ 1000000)) = b2
      cases b1 <;> cases b2 <;> simp
    · unfold f26_L1
      exact ⟨r2, by simp only [lt_f, cond_false, k2, Option.map_some], trivial⟩
  obtain ⟨r1, k1, _⟩ := k1
  exact ⟨r1, k1, k1⟩
theorem main7 {x : Row} (hx : fitRow x) (hs : smRow x) : ∃ r, f24 x = some r ∧ f26 x = some r := rowOk_eq hx hs

theorem law7 (aAR0 : Row) (haAR0 : fitRow aAR0) : f7 aAR0 = some true := by
  unfold f7
  obtain ⟨v0, e0, a0, b0⟩ := f23_sz (x := aAR0) (left := 1048576) (by omega) (by omega) haAR0
  rw [e0, Option.bind_some]
  rcases Bool.eq_false_or_eq_true (decide (v0 < (0 : Int))) with hb0 | hb0
  · rw [hb0]; rfl
  rw [hb0, cond_false]; simp only [decide_eq_false_iff_not] at hb0
  have saAR0 := b0.resolve_left hb0
  obtain ⟨r, m1, m2⟩ := main7 haAR0 saAR0
  simp only [f25_to (x := aAR0) saAR0, f27_eq (x := aAR0) saAR0, Option.bind_some, m1, m2, bne_self_eq_false, beq_self_eq_true, Bool.not_true, cond_false]
end
noncomputable section
open Go.ChangeShapes Go.WideShapes Go.ChangeAt Go.RowKit
theorem lifted7 (os : Os) (started : os.Started) (H : Type) (enc : TypeId × Value → H) :
    ReturnsInHanded {} Try.checked os 7 .any (Rows.fnExactRowOkSpec.pre6 enc Try.prog Try.f7 Rows.fnExactRowOkRow.domain false) (Rows.fnExactRowOkSpec.post enc Try.prog Try.f7 false true false false) := by
  refine returnsInHanded_of_change_sized (C := Try.checked) own started (by kernel_rfl) Try.func7
    (ChangeSpec.witness6 (enc := enc) (C := Try.checked) false ⟨#[], #[(Go.Value.agg #[(Go.Value.slice none 0 0), (Go.Value.slice none 0 0), (Go.Value.slice none 0 0), (Go.Value.slice none 0 0)])], []⟩ 8 (by kernel_rfl) (by kernel_rfl) (by kernel_rfl) (by kernel_rfl)) ?_
  intro W base args ds gs before hval0 hW hcnd hsz0 _
  have hW' := hW
  obtain ⟨p, q, hA0, hV, rfl, hfz, hnd⟩ := hW
  have hA : DataW.TrodAll enc Try.prog W 0 (fun _ => true) true Try.f7.params.toList args.toList ds p := hA0
  rw [Try.params7] at hA
  obtain ⟨v0, d0, rfl, rfl, h0⟩ := trodAll_one hA
  obtain ⟨rfl, rfl⟩ := trodVars_none hV
  have hlt0 : ∀ x ∈ p, x.block < W.heap.size := fun x hx => hW'.lt x (by simp [hx])
  have k0 := h0
  obtain ⟨_, e0⟩ := h0
  obtain ⟨x0, r0, g0⟩ := rd49 _ _ _ _ _ _ _ e0
  have s0 := argA (arg_struct Try.underlying49 (hval0 0 49 v0 (by rw [Try.params7]; rfl) rfl)) r0
  refine (law_walk fol (args1 s0 (args0 _)) (f7_run (law7 x0 g0))).mono fun e W' ⟨he, hb⟩ => ?_
  subst he
  exact ⟨_, rfl, _, _, _, [], _, [], hW', trodAll_mk1 (shut_bool Try.underlying4 _), trodAll_mk1 (Below.trod laid (by kernel_rfl) (of_decide_eq_true (by kernel_rfl)) k0 hb hlt0), rfl, hb.frame _, fun h => by cases h⟩
theorem over7 : Rows.fnExactRowOkRow.holds Try.pinned (OpenSpec.ofChange Rows.fnExactRowOkSpec) :=
  OpenClaim.holds_of_wide 7 Try.f7 rfl rfl rfl rfl rfl rfl rfl ⟨rfl, rfl, rfl, rfl, rfl⟩ rfl rfl rfl rfl rfl (by kernel_rfl) Try.func7 (by kernel_rfl)
    (of_decide_eq_true (by kernel_rfl)) (by unfold Func.isWrapper; first | (rw [if_pos (by decide +kernel)]; kernel_rfl) | (rw [if_neg (by decide +kernel)]; exact ⟨rfl, rfl⟩))
    (fun os started H enc _ => lifted7 os started H enc)
end
end Go.Proofs.Ytibdgkckacmfaaa.K
namespace Go.Proofs.Ytibdgkckacmfaaa
/-- The row. -/
theorem fnExactRowOk_holds : Rows.FnExactRowOkSaid := K.over7
#print axioms fnExactRowOk_holds
end Go.Proofs.Ytibdgkckacmfaaa
