/-
  The law FnExactCountEventOk returns true at every input and leaves its arguments as they were: the program answers as the reference does. No conditions.
-/
import Derived.Test.YtibdgkckacmfaaaDc
import Derived.Test.YtibdgkckacmfaaaRows
set_option linter.unusedVariables false
set_option linter.unusedSimpArgs false
set_option maxRecDepth 100000
namespace Go.Proofs.Ytibdgkckacmfaaa.K
noncomputable section
open Go.ChangeShapes Go.WideShapes Go.ChangeAt Go.RowKit
theorem fol : Try.prog.follows .mixedOrders = true := by decide +kernel
theorem own : ownKnob Try.prog.godebug = none := by kernel_rfl
theorem laid : laidOutB Try.prog = true := by kernel_rfl
abbrev fitCounter (x : Counter) : Prop := fitsI x.From ∧ fitsI x.To
abbrev fitLayout (x : Layout) : Prop := fitsI x.Sections ∧ (fitsL fitCounter) x.Counters
abbrev smLayout (x : Layout) : Prop := (smL (fun _ => True)) x.Counters
abbrev fitCountEvent (x : CountEvent) : Prop := fitsI x.Op ∧ fitsI x.Of ∧ fitsI x.Dir
theorem rd3 : Reads Try.prog 3 Int fitsI := reads_int Try.underlying3
theorem rd80 : Reads Try.prog 80 Counter fitCounter := by
  intro K enc W sp fuel cs d ps h
  obtain ⟨fu, hl, hf⟩ := trod_struct Try.underlying80 h
  have hl : cs.length = 2 := hl
  obtain ⟨_, _, h0⟩ := hf _ (List.Mem.head _)
  obtain ⟨x0, r0, g0⟩ := rd3 _ _ _ _ _ _ _ h0
  obtain ⟨_, _, h1⟩ := hf _ (List.Mem.tail _ (List.Mem.head _))
  obtain ⟨x1, r1, g1⟩ := rd3 _ _ _ _ _ _ _ h1
  exact ⟨⟨x0, x1⟩, fld (off := 0) (sz := 1) r0 (fldLast (sz := 1) hl r1), g0, g1⟩
theorem rd23 : Reads Try.prog 23 (List Counter) (fitsL fitCounter) := reads_slice Try.underlying23 rfl rd80
theorem rd25 : Reads Try.prog 25 Layout fitLayout := by
  intro K enc W sp fuel cs d ps h
  obtain ⟨fu, hl, hf⟩ := trod_struct Try.underlying25 h
  have hl : cs.length = 2 := hl
  obtain ⟨_, _, h0⟩ := hf _ (List.Mem.head _)
  obtain ⟨x0, r0, g0⟩ := rd3 _ _ _ _ _ _ _ h0
  obtain ⟨_, _, h1⟩ := hf _ (List.Mem.tail _ (List.Mem.head _))
  obtain ⟨x1, r1, g1⟩ := rd23 _ _ _ _ _ _ _ h1
  exact ⟨⟨x0, x1⟩, fld (off := 0) (sz := 1) r0 (fldLast (sz := 1) hl r1), g0, g1⟩
theorem rd35 : Reads Try.prog 35 CountEvent fitCountEvent := by
  intro K enc W sp fuel cs d ps h
  obtain ⟨fu, hl, hf⟩ := trod_struct Try.underlying35 h
  have hl : cs.length = 3 := hl
  obtain ⟨_, _, h0⟩ := hf _ (List.Mem.head _)
  obtain ⟨x0, r0, g0⟩ := rd3 _ _ _ _ _ _ _ h0
  obtain ⟨_, _, h1⟩ := hf _ (List.Mem.tail _ (List.Mem.head _))
  obtain ⟨x1, r1, g1⟩ := rd3 _ _ _ _ _ _ _ h1
  obtain ⟨_, _, h2⟩ := hf _ (List.Mem.tail _ (List.Mem.tail _ (List.Mem.head _)))
  obtain ⟨x2, r2, g2⟩ := rd3 _ _ _ _ _ _ _ h2
  exact ⟨⟨x0, x1, x2⟩, fld (off := 0) (sz := 1) r0 (fld (off := 1) (sz := 1) r1 (fldLast (sz := 1) hl r2)), g0, g1, g2⟩
theorem f33_sz {x : List Counter} {left : Int} (h0 : 0 ≤ left) (h1 : left ≤ 1048576) (hx : (fitsL fitCounter) x) : ∃ v, f33 x left = some v ∧ v ≤ left ∧ (v < 0 ∨ (smL (fun _ => True)) x) := by
  unfold f33
  obtain ⟨v, e1, e2, e3⟩ := sz_flat (xs := x) h0 h1 hx.1
  exact ⟨v, e1, e2, e3.imp id fun h => ⟨h.1, fun _ _ => trivial⟩⟩
theorem f9_sz {x : Layout} {left : Int} (h0 : 0 ≤ left) (h1 : left ≤ 1048576) (hx : fitLayout x) : ∃ v, f9 x left = some v ∧ v ≤ left ∧ (v < 0 ∨ smLayout x) := by
  unfold f9
  obtain ⟨v0, e0, a0, b0⟩ := f33_sz (x := x.Counters) (left := left) (by omega) (by omega) hx.2
  rw [e0, Option.bind_some]
  rcases Bool.eq_false_or_eq_true (decide (v0 < (0 : Int))) with hb0 | hb0
  · rw [hb0]; exact ⟨_, rfl, by omega, .inl (by decide)⟩
  rw [hb0, cond_false]; simp only [decide_eq_false_iff_not] at hb0
  exact ⟨_, rfl, by omega, .inr (b0.resolve_left hb0)⟩
theorem f54_to {x : Counter} (hx : (fun _ => True) x) : f54 x = some x := by
  unfold f54
  rfl
theorem f35_to {x : List Counter} (hx : (smL (fun _ => True)) x) : f35 x = some x := by
  have hl := hx.1
  unfold f35
  rw [makeB_ok (by omega), Option.bind_some]
  have := fill x (fun y => y) (⟨0, 0⟩ : Counter) (F := f35_L1 x) (fun ys i y hi hy => ?_) (fun ys => ?_)
  · rw [List.map_id'] at this; exact this
  · have hlt := get_lt hi
    unfold f35_L1
    have hg := f54_to (x := y) (hx.2 _ (List.mem_of_getElem? hi))
    simp only [lt_t (get_lt hi), cond_true, getI_nat, hi, Option.bind_some, hg]
    rw [List.getElem?_eq_getElem (by omega), Option.bind_some, w64_nat (by omega)]
    rfl
  · unfold f35_L1
    simp only [lt_f, cond_false, Option.map_some]
theorem f11_to {x : Layout} (hx : smLayout x) : f11 x = some x := by
  unfold f11
  rw [f35_to (x := x.Counters) hx]
  rfl
theorem f15_to {x : CountEvent} (hx : (fun _ => True) x) : f15 x = some x := by
  unfold f15
  rfl
theorem f55_eq {x : Counter} (hx : (fun _ => True) x) : f55 x x = some true := by
  unfold f55
  simp only [bne_self_eq_false, beq_self_eq_true, Bool.not_true, cond_false]
theorem f37_eq {x : List Counter} (hx : (smL (fun _ => True)) x) : f37 x x = some true := by
  unfold f37
  simp only [bne_self_eq_false, cond_false]
  refine eq_all (F := f37_L1 x x) hx.1 (fun i y hi => ?_) ?_
  · unfold f37_L1
    have hg := f55_eq (x := y) (hx.2 _ (List.mem_of_getElem? hi))
    simp only [lt_t (get_lt hi), cond_true, getI_nat, hi, Option.bind_some, hg, Bool.not_true, cond_false]
  · unfold f37_L1
    simp only [lt_f, cond_false, Option.map_some]
theorem f13_eq {x : Layout} (hx : smLayout x) : f13 x x = some true := by
  unfold f13
  simp only [bne_self_eq_false, beq_self_eq_true, Bool.not_true, cond_false, f37_eq (x := x.Counters) hx, Option.bind_some]
theorem layoutOk_eq {x : Layout} (hx : fitLayout x) (hs : smLayout x) : ∃ r, f10 x = some r ∧ f12 x = some r ∧ (r = 0 → 1 ≤ x.Sections ∧ x.Sections ≤ 60 ∧ x.Counters.length ≤ 120) := by
  have hl : x.Counters.length ≤ 1048576 := hs.1
  unfold f10 f12
  simp only [f34, Option.bind_some]
  have e1 : (!(decide (x.Sections ≥ 1) && decide (x.Sections ≤ 60)) || decide ((x.Counters.length : Int) > 120)) = ((decide (x.Sections < 1) || decide (x.Sections > 60)) || decide ((x.Counters.length : Int) > 120)) := by
    have a1 : decide (x.Sections < 1) = !decide (x.Sections ≥ 1) := by rw [← decide_not]; congr 1; apply propext; omega
    have a2 : decide (x.Sections > 60) = !decide (x.Sections ≤ 60) := by rw [← decide_not]; congr 1; apply propext; omega
    rw [a1, a2, Bool.not_and]
  rw [e1]
  rcases Bool.eq_false_or_eq_true ((decide (x.Sections < 1) || decide (x.Sections > 60)) || decide ((x.Counters.length : Int) > 120)) with hb | hb
  · rw [hb]
    exact ⟨1, rfl, rfl, fun h => by cases h⟩
  · rw [hb]
    simp only [Bool.or_eq_false_iff, decide_eq_false_iff_not] at hb
    have e2 : f10_L1 x = f12_L1 x := by
      funext s
      unfold f10_L1 f12_L1
      simp only [f34, f36, Option.bind_some]
      rw [w64_id ⟨by omega, by omega⟩]
      have e3 : ∀ y : Int, decide (y ≤ x.Sections - 1) = decide (y < x.Sections) := by intro y; congr 1; apply propext; omega
      simp only [e3]
    rw [e2]
    simp only [cond_false]
    have key : ∃ r, loopO (f12_L1 x) (0 : Int) = some r ∧ True := by
      refine loopO_ex (F := f12_L1 x) (fun _ => True) x.Counters.length (fun i => (i : Int)) (fun i hi => ?_) ?_
      · unfold f12_L1
        simp only [lt_t hi, cond_true, getI_ok hi, Option.bind_some, f36]
        rw [w64_nat (by omega)]
        generalize (decide (x.Counters[i].From ≥ -1) && decide (x.Counters[i].From < x.Sections)) = b1
        generalize (decide (x.Counters[i].To ≥ -1) && decide (x.Counters[i].To < x.Sections)) = b2
        cases b1 <;> cases b2 <;> cases (x.Counters[i].From == x.Counters[i].To) <;> simp
      · unfold f12_L1
        exact ⟨0, by simp only [lt_f, cond_false, Option.map_some], trivial⟩
    obtain ⟨r, h1, _⟩ := key
    exact ⟨r, h1, h1, fun _ => by omega⟩
theorem countEventOk_eq {x : Layout} {e : CountEvent} (hx : fitLayout x) (hs : smLayout x) : ∃ r, f14 x e = some r ∧ f16 x e = some r := by
  obtain ⟨r, h1, h2, h3⟩ := layoutOk_eq hx hs
  unfold f14 f16
  rw [h1, h2, Option.bind_some, Option.bind_some]
  rcases Bool.eq_false_or_eq_true (r != (0 : Int)) with hb | hb
  · rw [hb]; exact ⟨false, rfl, rfl⟩
  rw [hb]
  simp only [bne_eq_false_iff_eq] at hb
  obtain ⟨h4, h5, h6⟩ := h3 hb
  have e2 : f14_k2 x e = f16_k2 x e := by
    funext b
    unfold f14_k2 f16_k2
    simp only [f34, Option.bind_some]
    rw [le_pred ⟨by omega, by omega⟩, le_pred ⟨by omega, by omega⟩]
  have e1 : f14_k1 x e = f16_k1 x e := by
    funext b
    unfold f14_k1 f16_k1
    simp only [f34, Option.bind_some]
    rw [le_pred ⟨by omega, by omega⟩, e2]
  rw [e1]
  have t2 : ∀ b, ∃ r, f16_k2 x e b = some r := by
    intro b
    unfold f16_k2
    cases b <;> cases (e.Op == (5 : Int)) <;> exact ⟨_, rfl⟩
  have t1 : ∀ b, ∃ r, f16_k1 x e b = some r := by
    intro b
    unfold f16_k1
    cases b
    · cases (e.Op == (3 : Int))
      · exact t2 (e.Op == (4 : Int))
      · exact t2 true
    · exact ⟨_, rfl⟩
  simp only [cond_false]
  cases (e.Op == (1 : Int))
  · obtain ⟨r, hr⟩ := t1 (e.Op == (2 : Int))
    exact ⟨r, hr, hr⟩
  · obtain ⟨r, hr⟩ := t1 true
    exact ⟨r, hr, hr⟩
theorem main5 {x : Layout} {e : CountEvent} (hx : fitLayout x) (he : fitCountEvent e) (hs : smLayout x) : ∃ r, f14 x e = some r ∧ f16 x e = some r := countEventOk_eq hx hs

theorem law5 (aAL0 : Layout) (aAE1 : CountEvent) (haAL0 : fitLayout aAL0) (haAE1 : fitCountEvent aAE1) : f5 aAL0 aAE1 = some true := by
  unfold f5
  obtain ⟨v0, e0, a0, b0⟩ := f9_sz (x := aAL0) (left := 1048576) (by omega) (by omega) haAL0
  rw [e0, Option.bind_some]
  rcases Bool.eq_false_or_eq_true (decide (v0 < (0 : Int))) with hb0 | hb0
  · rw [hb0]; rfl
  rw [hb0, cond_false]; simp only [decide_eq_false_iff_not] at hb0
  have saAL0 := b0.resolve_left hb0
  obtain ⟨r, m1, m2⟩ := main5 haAL0 haAE1 saAL0
  simp only [f11_to (x := aAL0) saAL0, f15_to (x := aAE1) trivial, f13_eq (x := aAL0) saAL0, Option.bind_some, m1, m2, bne_self_eq_false, beq_self_eq_true, Bool.not_true, cond_false]
end
noncomputable section
open Go.ChangeShapes Go.WideShapes Go.ChangeAt Go.RowKit
theorem lifted5 (os : Os) (started : os.Started) (H : Type) (enc : TypeId × Value → H) :
    ReturnsInHanded {} Try.checked os 5 .any (Rows.fnExactCountEventOkSpec.pre6 enc Try.prog Try.f5 Rows.fnExactCountEventOkRow.domain false) (Rows.fnExactCountEventOkSpec.post enc Try.prog Try.f5 false true false false) := by
  refine returnsInHanded_of_change_sized (C := Try.checked) own started (by kernel_rfl) Try.func5
    (ChangeSpec.witness6 (enc := enc) (C := Try.checked) false ⟨#[], #[(Go.Value.agg #[(Go.Value.int Go.IntKind.i64 0), (Go.Value.slice none 0 0)]), (Go.Value.agg #[(Go.Value.int Go.IntKind.i64 0), (Go.Value.int Go.IntKind.i64 0), (Go.Value.int Go.IntKind.i64 0)])], []⟩ 8 (by kernel_rfl) (by kernel_rfl) (by kernel_rfl) (by kernel_rfl)) ?_
  intro W base args ds gs before hval0 hW hcnd hsz0 _
  have hW' := hW
  obtain ⟨p, q, hA0, hV, rfl, hfz, hnd⟩ := hW
  have hA : DataW.TrodAll enc Try.prog W 0 (fun _ => true) true Try.f5.params.toList args.toList ds p := hA0
  rw [Try.params5] at hA
  obtain ⟨v0, v1, d0, d1, p0, p1, rfl, rfl, rfl, h0, h1⟩ := trodAll_two hA
  obtain ⟨rfl, rfl⟩ := trodVars_none hV
  have hlt0 : ∀ x ∈ p0, x.block < W.heap.size := fun x hx => hW'.lt x (by simp [hx])
  have k0 := h0
  obtain ⟨_, e0⟩ := h0
  obtain ⟨x0, r0, g0⟩ := rd25 _ _ _ _ _ _ _ e0
  have s0 := argA (arg_struct Try.underlying25 (hval0 0 25 v0 (by rw [Try.params5]; rfl) rfl)) r0
  have hlt1 : ∀ x ∈ p1, x.block < W.heap.size := fun x hx => hW'.lt x (by simp [hx])
  have k1 := h1
  obtain ⟨_, e1⟩ := h1
  obtain ⟨x1, r1, g1⟩ := rd35 _ _ _ _ _ _ _ e1
  have s1 := argA (arg_struct Try.underlying35 (hval0 1 35 v1 (by rw [Try.params5]; rfl) rfl)) r1
  refine (law_walk fol (args1 s0 (args1 s1 (args0 _))) (f5_run (law5 x0 x1 g0 g1))).mono fun e W' ⟨he, hb⟩ => ?_
  subst he
  exact ⟨_, rfl, _, _, _, [], _, [], hW', trodAll_mk1 (shut_bool Try.underlying4 _), trodAll_mk2 (Below.trod laid (by kernel_rfl) (of_decide_eq_true (by kernel_rfl)) k0 hb hlt0) (Below.trod laid (by kernel_rfl) (of_decide_eq_true (by kernel_rfl)) k1 hb hlt1), rfl, hb.frame _, fun h => by cases h⟩
theorem over5 : Rows.fnExactCountEventOkRow.holds Try.pinned (OpenSpec.ofChange Rows.fnExactCountEventOkSpec) :=
  OpenClaim.holds_of_wide 5 Try.f5 rfl rfl rfl rfl rfl rfl rfl ⟨rfl, rfl, rfl, rfl, rfl⟩ rfl rfl rfl rfl rfl (by kernel_rfl) Try.func5 (by kernel_rfl)
    (of_decide_eq_true (by kernel_rfl)) (by unfold Func.isWrapper; first | (rw [if_pos (by decide +kernel)]; kernel_rfl) | (rw [if_neg (by decide +kernel)]; exact ⟨rfl, rfl⟩))
    (fun os started H enc _ => lifted5 os started H enc)
end
end Go.Proofs.Ytibdgkckacmfaaa.K
namespace Go.Proofs.Ytibdgkckacmfaaa
/-- The row. -/
theorem fnExactCountEventOk_holds : Rows.FnExactCountEventOkSaid := K.over5
#print axioms fnExactCountEventOk_holds
end Go.Proofs.Ytibdgkckacmfaaa
