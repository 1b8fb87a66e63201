/-
  The plain part of the law FnExactPlace: on typed values it returns true at every input. No conditions.
-/
import Derived.Test.YtkfekjcahepfnaaDPc
set_option linter.unusedVariables false
set_option linter.unusedSimpArgs false
set_option maxRecDepth 100000
namespace Go.Proofs.Ytkfekjcahepfnaa.K
noncomputable section
open Go.ChangeShapes Go.WideShapes Go.ChangeAt Go.RowKit
abbrev fitPiece (x : Piece) : Prop := (fun s => s.size ≤ 9223372036854775807) x.Name ∧ fitsI x.Len ∧ fitsI x.Speed ∧ fitsI x.Brake
abbrev fitEnd (x : End) : Prop := fitsI x.Piece ∧ fitsI x.Side
abbrev fitJoint (x : Joint) : Prop := fitsI x.Kind ∧ (fun s => s.size ≤ 9223372036854775807) x.Name ∧ (fitsL fitEnd) x.Ends
abbrev fitNet (x : Net) : Prop := (fitsL fitPiece) x.Pieces ∧ (fitsL fitJoint) x.Joints
abbrev smJoint (x : Joint) : Prop := (smL (fun _ => True)) x.Ends
abbrev smNet (x : Net) : Prop := (smL (fun _ => True)) x.Pieces ∧ (smL smJoint) x.Joints
abbrev fitSpot (x : Spot) : Prop := fitsI x.Piece ∧ fitsI x.At ∧ fitsI x.Way
abbrev fitStep (x : Step) : Prop := fitsI x.Piece ∧ fitsI x.Way
abbrev fitTrain (x : Train) : Prop := fitSpot x.Front ∧ fitsI x.Long ∧ (fitsL fitStep) x.Back
abbrev fitPlaced (x : Placed) : Prop := (fun _ => True) x.Ok ∧ fitTrain x.Train
abbrev smTrain (x : Train) : Prop := (smL (fun _ => True)) x.Back
abbrev smPlaced (x : Placed) : Prop := smTrain x.Train
theorem rd9 : Reads Try.prog 9 ByteArray (fun s => s.size ≤ 9223372036854775807) := reads_str Try.underlying9
theorem rd3 : Reads Try.prog 3 Int fitsI := reads_int Try.underlying3
theorem rd322 : Reads Try.prog 322 Piece fitPiece := by
  intro K enc W sp fuel cs d ps h
  obtain ⟨fu, hl, hf⟩ := trod_struct Try.underlying322 h
  have hl : cs.length = 4 := hl
  obtain ⟨_, _, h0⟩ := hf _ (List.Mem.head _)
  obtain ⟨x0, r0, g0⟩ := rd9 _ _ _ _ _ _ _ h0
  obtain ⟨_, _, h1⟩ := hf _ (List.Mem.tail _ (List.Mem.head _))
  obtain ⟨x1, r1, g1⟩ := rd3 _ _ _ _ _ _ _ h1
  obtain ⟨_, _, h2⟩ := hf _ (List.Mem.tail _ (List.Mem.tail _ (List.Mem.head _)))
  obtain ⟨x2, r2, g2⟩ := rd3 _ _ _ _ _ _ _ h2
  obtain ⟨_, _, h3⟩ := hf _ (List.Mem.tail _ (List.Mem.tail _ (List.Mem.tail _ (List.Mem.head _))))
  obtain ⟨x3, r3, g3⟩ := rd3 _ _ _ _ _ _ _ h3
  exact ⟨⟨x0, x1, x2, x3⟩, fld (off := 0) (sz := 1) r0 (fld (off := 1) (sz := 1) r1 (fld (off := 2) (sz := 1) r2 (fldLast (sz := 1) hl r3))), g0, g1, g2, g3⟩
theorem rd118 : Reads Try.prog 118 (List Piece) (fitsL fitPiece) := reads_slice Try.underlying118 rfl rd322
theorem rd394 : Reads Try.prog 394 End fitEnd := by
  intro K enc W sp fuel cs d ps h
  obtain ⟨fu, hl, hf⟩ := trod_struct Try.underlying394 h
  have hl : cs.length = 2 := hl
  obtain ⟨_, _, h0⟩ := hf _ (List.Mem.head _)
  obtain ⟨x0, r0, g0⟩ := rd3 _ _ _ _ _ _ _ h0
  obtain ⟨_, _, h1⟩ := hf _ (List.Mem.tail _ (List.Mem.head _))
  obtain ⟨x1, r1, g1⟩ := rd3 _ _ _ _ _ _ _ h1
  exact ⟨⟨x0, x1⟩, fld (off := 0) (sz := 1) r0 (fldLast (sz := 1) hl r1), g0, g1⟩
theorem rd324 : Reads Try.prog 324 (List End) (fitsL fitEnd) := reads_slice Try.underlying324 rfl rd394
theorem rd326 : Reads Try.prog 326 Joint fitJoint := by
  intro K enc W sp fuel cs d ps h
  obtain ⟨fu, hl, hf⟩ := trod_struct Try.underlying326 h
  have hl : cs.length = 3 := hl
  obtain ⟨_, _, h0⟩ := hf _ (List.Mem.head _)
  obtain ⟨x0, r0, g0⟩ := rd3 _ _ _ _ _ _ _ h0
  obtain ⟨_, _, h1⟩ := hf _ (List.Mem.tail _ (List.Mem.head _))
  obtain ⟨x1, r1, g1⟩ := rd9 _ _ _ _ _ _ _ h1
  obtain ⟨_, _, h2⟩ := hf _ (List.Mem.tail _ (List.Mem.tail _ (List.Mem.head _)))
  obtain ⟨x2, r2, g2⟩ := rd324 _ _ _ _ _ _ _ h2
  exact ⟨⟨x0, x1, x2⟩, fld (off := 0) (sz := 1) r0 (fld (off := 1) (sz := 1) r1 (fldLast (sz := 1) hl r2)), g0, g1, g2⟩
theorem rd119 : Reads Try.prog 119 (List Joint) (fitsL fitJoint) := reads_slice Try.underlying119 rfl rd326
theorem rd121 : Reads Try.prog 121 Net fitNet := by
  intro K enc W sp fuel cs d ps h
  obtain ⟨fu, hl, hf⟩ := trod_struct Try.underlying121 h
  have hl : cs.length = 2 := hl
  obtain ⟨_, _, h0⟩ := hf _ (List.Mem.head _)
  obtain ⟨x0, r0, g0⟩ := rd118 _ _ _ _ _ _ _ h0
  obtain ⟨_, _, h1⟩ := hf _ (List.Mem.tail _ (List.Mem.head _))
  obtain ⟨x1, r1, g1⟩ := rd119 _ _ _ _ _ _ _ h1
  exact ⟨⟨x0, x1⟩, fld (off := 0) (sz := 1) r0 (fldLast (sz := 1) hl r1), g0, g1⟩
theorem rd26 : Reads Try.prog 26 (List Int) (fitsL fitsI) := reads_slice Try.underlying26 rfl rd3
theorem rd123 : Reads Try.prog 123 Spot fitSpot := by
  intro K enc W sp fuel cs d ps h
  obtain ⟨fu, hl, hf⟩ := trod_struct Try.underlying123 h
  have hl : cs.length = 3 := hl
  obtain ⟨_, _, h0⟩ := hf _ (List.Mem.head _)
  obtain ⟨x0, r0, g0⟩ := rd3 _ _ _ _ _ _ _ h0
  obtain ⟨_, _, h1⟩ := hf _ (List.Mem.tail _ (List.Mem.head _))
  obtain ⟨x1, r1, g1⟩ := rd3 _ _ _ _ _ _ _ h1
  obtain ⟨_, _, h2⟩ := hf _ (List.Mem.tail _ (List.Mem.tail _ (List.Mem.head _)))
  obtain ⟨x2, r2, g2⟩ := rd3 _ _ _ _ _ _ _ h2
  exact ⟨⟨x0, x1, x2⟩, fld (off := 0) (sz := 1) r0 (fld (off := 1) (sz := 1) r1 (fldLast (sz := 1) hl r2)), g0, g1, g2⟩
theorem f282_sz {x : Piece} {left : Int} (h0 : 0 ≤ left) (h1 : left ≤ 1048576) (hx : fitPiece x) : ∃ v, f282 x left = some v ∧ v ≤ left ∧ (v < 0 ∨ (fun _ => True) x) := by
  unfold f282
  have hz0 : x.Name.size ≤ 9223372036854775807 := hx.1
  obtain ⟨v0, e0, a0⟩ : ∃ v, w64 (left - (x.Name.size : Int)) = v ∧ v ≤ left := ⟨_, rfl, by rw [w64_id ⟨by omega, by omega⟩]; omega⟩
  rw [e0]
  rcases Bool.eq_false_or_eq_true (decide (v0 < (0 : Int))) with hb0 | hb0
  · rw [hb0]; exact ⟨_, rfl, by omega, .inl (by decide)⟩
  rw [hb0, cond_false]; simp only [decide_eq_false_iff_not] at hb0
  exact ⟨_, rfl, by omega, .inr trivial⟩
theorem f193_sz {x : List Piece} {left : Int} (h0 : 0 ≤ left) (h1 : left ≤ 1048576) (hx : (fitsL fitPiece) x) : ∃ v, f193 x left = some v ∧ v ≤ left ∧ (v < 0 ∨ (smL (fun _ => True)) x) := by
  unfold f193
  refine sz_deep (g := f282) (fit := fitPiece) (sm := (fun _ => True)) (fun x l a b c => f282_sz b c a) (fun l i x hi => ?_) (fun l => ?_) h0 h1 hx
  · unfold f193_L1
    simp only [lt_t (get_lt hi), cond_true, getI_nat, hi, Option.bind_some, Option.map_some]
  · unfold f193_L1
    simp only [lt_f, cond_false, Option.map_some]
theorem f328_sz {x : List End} {left : Int} (h0 : 0 ≤ left) (h1 : left ≤ 1048576) (hx : (fitsL fitEnd) x) : ∃ v, f328 x left = some v ∧ v ≤ left ∧ (v < 0 ∨ (smL (fun _ => True)) x) := by
  unfold f328
  obtain ⟨v, e1, e2, e3⟩ := sz_flat (xs := x) h0 h1 hx.1
  exact ⟨v, e1, e2, e3.imp id fun h => ⟨h.1, fun _ _ => trivial⟩⟩
theorem f283_sz {x : Joint} {left : Int} (h0 : 0 ≤ left) (h1 : left ≤ 1048576) (hx : fitJoint x) : ∃ v, f283 x left = some v ∧ v ≤ left ∧ (v < 0 ∨ smJoint x) := by
  unfold f283
  have hz0 : x.Name.size ≤ 9223372036854775807 := hx.2.1
  obtain ⟨v0, e0, a0⟩ : ∃ v, w64 (left - (x.Name.size : Int)) = v ∧ v ≤ left := ⟨_, rfl, by rw [w64_id ⟨by omega, by omega⟩]; omega⟩
  rw [e0]
  rcases Bool.eq_false_or_eq_true (decide (v0 < (0 : Int))) with hb0 | hb0
  · rw [hb0]; exact ⟨_, rfl, by omega, .inl (by decide)⟩
  rw [hb0, cond_false]; simp only [decide_eq_false_iff_not] at hb0
  obtain ⟨v1, e1, a1, b1⟩ := f328_sz (x := x.Ends) (left := v0) (by omega) (by omega) hx.2.2
  rw [e1, Option.bind_some]
  rcases Bool.eq_false_or_eq_true (decide (v1 < (0 : Int))) with hb1 | hb1
  · rw [hb1]; exact ⟨_, rfl, by omega, .inl (by decide)⟩
  rw [hb1, cond_false]; simp only [decide_eq_false_iff_not] at hb1
  exact ⟨_, rfl, by omega, .inr (b1.resolve_left hb1)⟩
theorem f194_sz {x : List Joint} {left : Int} (h0 : 0 ≤ left) (h1 : left ≤ 1048576) (hx : (fitsL fitJoint) x) : ∃ v, f194 x left = some v ∧ v ≤ left ∧ (v < 0 ∨ (smL smJoint) x) := by
  unfold f194
  refine sz_deep (g := f283) (fit := fitJoint) (sm := smJoint) (fun x l a b c => f283_sz b c a) (fun l i x hi => ?_) (fun l => ?_) h0 h1 hx
  · unfold f194_L1
    simp only [lt_t (get_lt hi), cond_true, getI_nat, hi, Option.bind_some, Option.map_some]
  · unfold f194_L1
    simp only [lt_f, cond_false, Option.map_some]
theorem f77_sz {x : Net} {left : Int} (h0 : 0 ≤ left) (h1 : left ≤ 1048576) (hx : fitNet x) : ∃ v, f77 x left = some v ∧ v ≤ left ∧ (v < 0 ∨ smNet x) := by
  unfold f77
  obtain ⟨v0, e0, a0, b0⟩ := f193_sz (x := x.Pieces) (left := left) (by omega) (by omega) hx.1
  rw [e0, Option.bind_some]
  rcases Bool.eq_false_or_eq_true (decide (v0 < (0 : Int))) with hb0 | hb0
  · rw [hb0]; exact ⟨_, rfl, by omega, .inl (by decide)⟩
  rw [hb0, cond_false]; simp only [decide_eq_false_iff_not] at hb0
  obtain ⟨v1, e1, a1, b1⟩ := f194_sz (x := x.Joints) (left := v0) (by omega) (by omega) hx.2
  rw [e1, Option.bind_some]
  rcases Bool.eq_false_or_eq_true (decide (v1 < (0 : Int))) with hb1 | hb1
  · rw [hb1]; exact ⟨_, rfl, by omega, .inl (by decide)⟩
  rw [hb1, cond_false]; simp only [decide_eq_false_iff_not] at hb1
  exact ⟨_, rfl, by omega, .inr ⟨b0.resolve_left hb0, b1.resolve_left hb1⟩⟩
theorem f286_to {x : Piece} (hx : (fun _ => True) x) : f286 x = some x := by
  unfold f286
  rfl
theorem f197_to {x : List Piece} (hx : (smL (fun _ => True)) x) : f197 x = some x := by
  have hl := hx.1
  unfold f197
  rw [makeB_ok (by omega), Option.bind_some]
  have := fill x (fun y => y) (⟨ByteArray.empty, 0, 0, 0⟩ : Piece) (F := f197_L1 x) (fun ys i y hi hy => ?_) (fun ys => ?_)
  · rw [List.map_id'] at this; exact this
  · have hlt := get_lt hi
    unfold f197_L1
    have hg := f286_to (x := y) (hx.2 _ (List.mem_of_getElem? hi))
    simp only [lt_t (get_lt hi), cond_true, getI_nat, hi, Option.bind_some, hg]
    rw [List.getElem?_eq_getElem (by omega), Option.bind_some, w64_nat (by omega)]
    rfl
  · unfold f197_L1
    simp only [lt_f, cond_false, Option.map_some]
theorem f353_to {x : End} (hx : (fun _ => True) x) : f353 x = some x := by
  unfold f353
  rfl
theorem f333_to {x : List End} (hx : (smL (fun _ => True)) x) : f333 x = some x := by
  have hl := hx.1
  unfold f333
  rw [makeB_ok (by omega), Option.bind_some]
  have := fill x (fun y => y) (⟨0, 0⟩ : End) (F := f333_L1 x) (fun ys i y hi hy => ?_) (fun ys => ?_)
  · rw [List.map_id'] at this; exact this
  · have hlt := get_lt hi
    unfold f333_L1
    have hg := f353_to (x := y) (hx.2 _ (List.mem_of_getElem? hi))
    simp only [lt_t (get_lt hi), cond_true, getI_nat, hi, Option.bind_some, hg]
    rw [List.getElem?_eq_getElem (by omega), Option.bind_some, w64_nat (by omega)]
    rfl
  · unfold f333_L1
    simp only [lt_f, cond_false, Option.map_some]
theorem f287_to {x : Joint} (hx : smJoint x) : f287 x = some x := by
  unfold f287
  rw [f333_to (x := x.Ends) hx]
  rfl
theorem f198_to {x : List Joint} (hx : (smL smJoint) x) : f198 x = some x := by
  have hl := hx.1
  unfold f198
  rw [makeB_ok (by omega), Option.bind_some]
  have := fill x (fun y => y) (⟨0, ByteArray.empty, []⟩ : Joint) (F := f198_L1 x) (fun ys i y hi hy => ?_) (fun ys => ?_)
  · rw [List.map_id'] at this; exact this
  · have hlt := get_lt hi
    unfold f198_L1
    have hg := f287_to (x := y) (hx.2 _ (List.mem_of_getElem? hi))
    simp only [lt_t (get_lt hi), cond_true, getI_nat, hi, Option.bind_some, hg]
    rw [List.getElem?_eq_getElem (by omega), Option.bind_some, w64_nat (by omega)]
    rfl
  · unfold f198_L1
    simp only [lt_f, cond_false, Option.map_some]
theorem f80_to {x : Net} (hx : smNet x) : f80 x = some x := by
  unfold f80
  rw [f197_to (x := x.Pieces) hx.1, f198_to (x := x.Joints) hx.2]
  rfl
theorem f97_to {x : List Int} (hx : (smL (fun _ => True)) x) : f97 x = some x := by
  have hl := hx.1
  unfold f97
  rw [makeB_ok (by omega), Option.bind_some]
  have := fill x (fun y => y) (0 : Int) (F := f97_L1 x) (fun ys i y hi hy => ?_) (fun ys => ?_)
  · rw [List.map_id'] at this; exact this
  · have hlt := get_lt hi
    unfold f97_L1
    simp only [lt_t (get_lt hi), cond_true, getI_nat, hi, Option.bind_some]
    rw [List.getElem?_eq_getElem (by omega), Option.bind_some, w64_nat (by omega)]
    rfl
  · unfold f97_L1
    simp only [lt_f, cond_false, Option.map_some]
theorem f100_to {x : Spot} (hx : (fun _ => True) x) : f100 x = some x := by
  unfold f100
  rfl
theorem f28_eq {x : List Int} (hx : (smL (fun _ => True)) x) : f28 x x = some true := by
  unfold f28
  simp only [bne_self_eq_false, cond_false]
  refine eq_all (F := f28_L1 x x) hx.1 (fun i y hi => ?_) ?_
  · unfold f28_L1
    simp only [lt_t (get_lt hi), cond_true, getI_nat, hi, Option.bind_some, bne_self_eq_false, beq_self_eq_true, Bool.not_true, cond_false]
  · unfold f28_L1
    simp only [lt_f, cond_false, Option.map_some]
theorem f295_eq {x : Piece} (hx : (fun _ => True) x) : f295 x x = some true := by
  unfold f295
  simp only [bne_self_eq_false, beq_self_eq_true, Bool.not_true, cond_false]
theorem f201_eq {x : List Piece} (hx : (smL (fun _ => True)) x) : f201 x x = some true := by
  unfold f201
  simp only [bne_self_eq_false, cond_false]
  refine eq_all (F := f201_L1 x x) hx.1 (fun i y hi => ?_) ?_
  · unfold f201_L1
    have hg := f295_eq (x := y) (hx.2 _ (List.mem_of_getElem? hi))
    simp only [lt_t (get_lt hi), cond_true, getI_nat, hi, Option.bind_some, hg, Bool.not_true, cond_false]
  · unfold f201_L1
    simp only [lt_f, cond_false, Option.map_some]
theorem f354_eq {x : End} (hx : (fun _ => True) x) : f354 x x = some true := by
  unfold f354
  simp only [bne_self_eq_false, beq_self_eq_true, Bool.not_true, cond_false]
theorem f339_eq {x : List End} (hx : (smL (fun _ => True)) x) : f339 x x = some true := by
  unfold f339
  simp only [bne_self_eq_false, cond_false]
  refine eq_all (F := f339_L1 x x) hx.1 (fun i y hi => ?_) ?_
  · unfold f339_L1
    have hg := f354_eq (x := y) (hx.2 _ (List.mem_of_getElem? hi))
    simp only [lt_t (get_lt hi), cond_true, getI_nat, hi, Option.bind_some, hg, Bool.not_true, cond_false]
  · unfold f339_L1
    simp only [lt_f, cond_false, Option.map_some]
theorem f296_eq {x : Joint} (hx : smJoint x) : f296 x x = some true := by
  unfold f296
  simp only [bne_self_eq_false, beq_self_eq_true, Bool.not_true, cond_false, f339_eq (x := x.Ends) hx, Option.bind_some]
theorem f202_eq {x : List Joint} (hx : (smL smJoint) x) : f202 x x = some true := by
  unfold f202
  simp only [bne_self_eq_false, cond_false]
  refine eq_all (F := f202_L1 x x) hx.1 (fun i y hi => ?_) ?_
  · unfold f202_L1
    have hg := f296_eq (x := y) (hx.2 _ (List.mem_of_getElem? hi))
    simp only [lt_t (get_lt hi), cond_true, getI_nat, hi, Option.bind_some, hg, Bool.not_true, cond_false]
  · unfold f202_L1
    simp only [lt_f, cond_false, Option.map_some]
theorem f83_eq {x : Net} (hx : smNet x) : f83 x x = some true := by
  unfold f83
  simp only [bne_self_eq_false, beq_self_eq_true, Bool.not_true, cond_false, f201_eq (x := x.Pieces) hx.1, f202_eq (x := x.Joints) hx.2, Option.bind_some]
theorem f87_eq {x : Spot} (hx : (fun _ => True) x) : f87 x x = some true := by
  unfold f87
  simp only [bne_self_eq_false, beq_self_eq_true, Bool.not_true, cond_false]
theorem f263_eq {x : Step} (hx : (fun _ => True) x) : f263 x x = some true := by
  unfold f263
  simp only [bne_self_eq_false, beq_self_eq_true, Bool.not_true, cond_false]
theorem f163_eq {x : List Step} (hx : (smL (fun _ => True)) x) : f163 x x = some true := by
  unfold f163
  simp only [bne_self_eq_false, cond_false]
  refine eq_all (F := f163_L1 x x) hx.1 (fun i y hi => ?_) ?_
  · unfold f163_L1
    have hg := f263_eq (x := y) (hx.2 _ (List.mem_of_getElem? hi))
    simp only [lt_t (get_lt hi), cond_true, getI_nat, hi, Option.bind_some, hg, Bool.not_true, cond_false]
  · unfold f163_L1
    simp only [lt_f, cond_false, Option.map_some]
theorem f84_eq {x : Train} (hx : smTrain x) : f84 x x = some true := by
  unfold f84
  simp only [bne_self_eq_false, beq_self_eq_true, Bool.not_true, cond_false, f87_eq (x := x.Front) trivial, f163_eq (x := x.Back) hx, Option.bind_some]
theorem f102_eq {x : Placed} (hx : smPlaced x) : f102 x x = some true := by
  unfold f102
  simp only [bne_self_eq_false, beq_self_eq_true, Bool.not_true, cond_false, f84_eq (x := x.Train) hx, Option.bind_some]
theorem str_eq (a b : ByteArray) : (a.toList == b.toList) = decide (a = b) := by
  rw [Bool.eq_iff_iff, decide_eq_true_eq, ByteArray.toList_eq, ByteArray.toList_eq, beq_iff_eq]
  exact ⟨fun h => by cases a; cases b; simp only [Array.toList_inj] at h; rw [h], fun h => by rw [h]⟩
/-- The first place, if any, at which a search ends. -/
def firstO {ρ : Type} (n : Nat) (b : Nat → Option ρ) (e : Option ρ) : Option ρ := match (List.range n).findSome? b with | some r => some r | none => e
theorem firstO_none {ρ : Type} {n : Nat} {b : Nat → Option ρ} {e : Option ρ} (h : ∀ i, i < n → b i = none) : firstO n b e = e := by
  unfold firstO
  rw [List.findSome?_eq_none_iff.2 (fun x hx => h x (List.mem_range.1 hx))]
theorem firstO_some {ρ : Type} {n : Nat} {b : Nat → Option ρ} {e : Option ρ} {i : Nat} {r : ρ} (hi : i < n) (h : ∀ j, j < i → b j = none) (hr : b i = some r) : firstO n b e = some r := by
  unfold firstO
  have e1 : n = i + ((n - i - 1) + 1) := by omega
  have h0 : (List.range i).findSome? b = none := List.findSome?_eq_none_iff.2 fun x hx => h x (List.mem_range.1 hx)
  rw [e1, List.range_add, List.findSome?_append, h0, List.range_succ_eq_map]
  simp [hr]
/-- A search is: no place ends it, or a first one does. -/
theorem first_cases {ρ : Type} (n : Nat) (b : Nat → Option ρ) : (∀ i, i < n → b i = none) ∨ ∃ i r, i < n ∧ (∀ j, j < i → b j = none) ∧ b i = some r := by
  induction n with
  | zero => exact .inl (fun i hi => by omega)
  | succ n ih =>
    rcases ih with h | ⟨i, r, h1, h2, h3⟩
    · cases hb : b n with
      | none =>
        refine .inl (fun i hi => ?_)
        rcases Nat.lt_or_ge i n with hl | hl
        · exact h i hl
        · have : i = n := by omega
          subst this; exact hb
      | some r => exact .inr ⟨n, r, by omega, h, hb⟩
    · exact .inr ⟨i, r, by omega, h2, h3⟩
/-- A loop that searches. -/
theorem loop_find {σ ρ : Type} {F : σ → Option (σ ⊕ ρ)} (n : Nat) (st : Nat → σ) (b : Nat → Option ρ) (e : Option ρ) (h : ∀ i, i < n → (∀ j, j < i → b j = none) → F (st i) = some ((b i).elim (.inl (st (i + 1))) .inr)) (hend : (∀ j, j < n → b j = none) → F (st n) = e.map .inr) : loopO F (st 0) = firstO n b e := by
  have key : ∀ k i, i + k = n → (∀ j, j < i → b j = none) → loopO F (st i) = firstO n b e := by
    intro k
    induction k with
    | zero =>
      intro i hi hb
      have : i = n := by omega
      subst this
      rw [loopO_eq, hend hb, firstO_none hb]
      cases e <;> rfl
    | succ k ih =>
      intro i hi hb
      rw [loopO_eq, h i (by omega) hb]
      cases hr : b i with
      | some r => rw [firstO_some (by omega) hb hr]; rfl
      | none =>
        simp only [Option.bind_some, Option.elim]
        refine ih (i + 1) (by omega) (fun j hj => ?_)
        rcases Nat.lt_or_ge j i with hl | hl
        · exact hb j hl
        · have : j = i := by omega
          subst this; exact hr
  exact key n 0 (by omega) (fun j hj => by omega)
/-- A loop that gathers. -/
theorem loop_fold {α β ρ : Type} {F : β × Int → Option ((β × Int) ⊕ ρ)} (xs : List α) (g : β → α → β) (a0 : β) (e : β → Option ρ) (h : ∀ (a : β) (i : Nat) (x : α), xs[i]? = some x → F (a, (i : Int)) = some (.inl (g a x, ((i + 1 : Nat) : Int)))) (hend : ∀ a, F (a, (xs.length : Int)) = (e a).map .inr) : loopO F (a0, (0 : Int)) = e (xs.foldl g a0) := by
  have key : ∀ k i (a : β), i + k = xs.length → loopO F (a, (i : Int)) = e ((xs.drop i).foldl g a) := by
    intro k
    induction k with
    | zero =>
      intro i a hi
      have : i = xs.length := by omega
      subst this
      rw [loopO_eq, hend, List.drop_length, List.foldl_nil]
      cases e a <;> rfl
    | succ k ih =>
      intro i a hi
      have hlt : i < xs.length := by omega
      rw [loopO_eq, h a i _ (List.getElem?_eq_getElem hlt), List.drop_eq_getElem_cons hlt, List.foldl_cons]
      exact ih (i + 1) _ (by omega)
  have := key xs.length 0 a0 (by omega)
  simpa using this
section
variable {κ ν : Type} [DecidableEq κ]
theorem mfind_none {k : κ} : ∀ {m : List (κ × ν)} {i : Nat}, mfind k m i = none → ∀ j, mfind k m j = none
  | [], _, _, _ => rfl
  | e :: m, i, h, j => by
    unfold mfind at h ⊢
    split at h
    · cases h
    · rename_i hk; rw [if_neg hk]; exact mfind_none h (j + 1)
theorem mget_cons (k : κ) (e : κ × ν) (m : List (κ × ν)) (z : ν) : mget k (e :: m) z = if k = e.1 then e.2 else mget k m z := by
  by_cases hk : k = e.1
  · rw [if_pos hk]
    unfold mget mfind
    rw [if_pos hk]
  · rw [if_neg hk]
    unfold mget
    have h0 : mfind k (e :: m) 0 = mfind k m (0 + 1) := by rw [mfind, if_neg hk]
    rw [h0]
    have key : ∀ (m : List (κ × ν)) i j, (mfind k m i).map (·.2) = (mfind k m j).map (·.2) := by
      intro m
      induction m with
      | nil => intro i j; rfl
      | cons e m ih =>
        intro i j
        unfold mfind
        split
        · rfl
        · exact ih _ _
    have := key m (0 + 1) 0
    cases h1 : mfind k m (0 + 1) <;> cases h2 : mfind k m 0 <;> rw [h1, h2] at this <;> simp_all
theorem mget_append (k k' : κ) (v : ν) (z : ν) : ∀ (m : List (κ × ν)), mfind k' m 0 = none → mget k (m ++ [(k', v)]) z = if k = k' then v else mget k m z
  | [], _ => by rw [List.nil_append, mget_cons]
  | e :: m, h => by
    have h' : k' ≠ e.1 ∧ mfind k' m 0 = none := by
      unfold mfind at h
      split at h
      · cases h
      · rename_i hk; exact ⟨hk, mfind_none h 0⟩
    rw [List.cons_append, mget_cons, mget_append k k' v z m h'.2, mget_cons]
    by_cases h1 : k = e.1
    · rw [if_pos h1, if_pos h1, if_neg (fun (h2 : k = k') => h'.1 (h2 ▸ h1))]
    · rw [if_neg h1, if_neg h1]
theorem mget_setAt (k k' : κ) (v : ν) (z : ν) : ∀ (m : List (κ × ν)) (n i : Nat) (x : ν), mfind k' m n = some (n + i, x) → mget k (m.set i (k', v)) z = if k = k' then v else mget k m z
  | [], _, _, _, h => by cases h
  | e :: m, n, i, x, h => by
    unfold mfind at h
    split at h
    · rename_i hk
      simp only [Option.some.injEq, Prod.mk.injEq] at h
      have : i = 0 := by omega
      subst this
      rw [List.set_cons_zero, mget_cons, mget_cons, hk]
      by_cases h1 : k = e.1
      · rw [if_pos h1, if_pos h1]
      · rw [if_neg h1, if_neg h1, if_neg h1]
    · rename_i hk
      have hi := (mfind_get h).1
      simp only [] at hi
      obtain ⟨i', rfl⟩ : ∃ i', i = i' + 1 := ⟨i - 1, by omega⟩
      rw [List.set_cons_succ, mget_cons, mget_setAt k k' v z m (n + 1) i' x (by rw [h]; congr 2; omega), mget_cons]
      by_cases h1 : k = e.1
      · rw [if_pos h1, if_pos h1, if_neg (fun (h2 : k = k') => hk (h2 ▸ h1))]
      · rw [if_neg h1, if_neg h1]
theorem mget_mset (k k' : κ) (v z : ν) (m : List (κ × ν)) : mget k (mset k' v m) z = if k = k' then v else mget k m z := by
  unfold mset
  cases h : mfind k' m 0 with
  | none => exact mget_append k k' v z m h
  | some x =>
    obtain ⟨i, y⟩ := x
    exact mget_setAt k k' v z m 0 i y (by rw [h, Nat.zero_add])
/-- What has been set under keys of a list. -/
theorem mget_keys {α : Type} (p : α → Bool) (f : α → κ) (xs : List α) (k : κ) : mget k (xs.foldl (fun m x => bif p x then mset (f x) true m else m) []) false = xs.any fun x => p x && decide (f x = k) := by
  have key : ∀ (xs : List α) (m : List (κ × Bool)), mget k (xs.foldl (fun m x => bif p x then mset (f x) true m else m) m) false = (mget k m false || xs.any fun x => p x && decide (f x = k)) := by
    intro xs
    induction xs with
    | nil => intro m; simp
    | cons x xs ih =>
      intro m
      rw [List.foldl_cons, ih, List.any_cons]
      cases hp : p x with
      | false => simp
      | true =>
        rw [cond_true, mget_mset]
        by_cases hk : k = f x
        · rw [if_pos hk]; simp [hk]
        · rw [if_neg hk]
          have : decide (f x = k) = false := decide_eq_false (fun h => hk h.symm)
          simp [this]
  rw [key]
  rfl
end
theorem firstO_any {ρ : Type} (n : Nat) (p : Nat → Bool) (r : ρ) (e : Option ρ) : firstO n (fun i => bif p i then some r else none) e = bif (List.range n).any p then some r else e := by
  rcases first_cases n (fun i => bif p i then some r else none) with h | ⟨i, r', hi, hj, hr⟩
  · rw [firstO_none h]
    have : (List.range n).any p = false := by
      rw [List.any_eq_false]
      intro x hx
      have := h x (List.mem_range.1 hx)
      cases hp : p x <;> simp_all
    rw [this]; rfl
  · rw [firstO_some hi hj hr]
    have hp : p i = true := by cases hp : p i <;> simp_all
    have : (List.range n).any p = true := List.any_eq_true.2 ⟨i, List.mem_range.2 hi, hp⟩
    rw [this]
    simp_all
theorem firstO_all (n : Nat) (p : Nat → Bool) (e : Bool) : firstO n (fun i => bif p i then none else some false) (some e) = some ((List.range n).all p && e) := by
  have : (fun i => bif p i then (none : Option Bool) else some false) = fun i => bif !p i then some false else none := by funext i; cases p i <;> rfl
  rw [this, firstO_any]
  have : ((List.range n).any fun i => !p i) = !((List.range n).all p) := by rw [List.not_all_eq_any_not]
  rw [this]
  cases (List.range n).all p <;> rfl
theorem firstO_is {ρ : Type} (n : Nat) (b : Nat → Option ρ) {e : Option ρ} (h : ∃ r, e = some r) : ∃ r, firstO n b e = some r := by
  unfold firstO
  split
  · exact ⟨_, rfl⟩
  · exact h
theorem firstO_congr {ρ : Type} {n : Nat} {b b' : Nat → Option ρ} {e e' : Option ρ} (h : ∀ i, i < n → b i = b' i) (he : (∀ i, i < n → b i = none) → e = e') : firstO n b e = firstO n b' e' := by
  rcases first_cases n b with h1 | ⟨i, r, hi, hj, hr⟩
  · rw [firstO_none h1, firstO_none (fun i hi => by rw [← h i hi]; exact h1 i hi)]; exact he h1
  · rw [firstO_some hi hj hr, firstO_some hi (fun j hl => by rw [← h j (by omega)]; exact hj j hl) (by rw [← h i hi]; exact hr)]
theorem cond_some {α : Type} (b : Bool) (x y : α) : (bif b then some x else some y) = some (bif b then x else y) := by cases b <;> rfl
theorem range_any_take {α : Type} (xs : List α) (g : α → Bool) : ∀ i, ((List.range i).any fun j => (xs[j]?).any g) = (xs.take i).any g
  | 0 => by simp
  | i + 1 => by
    rw [List.range_succ, List.any_append, range_any_take xs g i, List.take_add_one, List.any_append, List.any_cons, List.any_nil, Bool.or_false]
    cases xs[i]? <;> simp [Option.any]
theorem foldl_take {α β : Type} (g : β → α → β) (a : β) {xs : List α} {i : Nat} {x : α} (h : xs[i]? = some x) : (xs.take (i + 1)).foldl g a = g ((xs.take i).foldl g a) x := by
  rw [List.take_add_one, List.foldl_append, h]; rfl
theorem byteAt_ok {s : ByteArray} {i : Nat} (h : i < s.size) : byteAt s (i : Int) = some ((byteAt s (i : Int)).getD 0) := by
  unfold byteAt
  rw [if_pos (by omega), Int.toNat_natCast, getElem?_pos s i h]
  rfl
theorem loopO_elim {σ ρ : Type} (F : σ → Option (σ ⊕ ρ)) (s : σ) : loopO F s = (F s).bind (Sum.elim (loopO F) some) := by
  rw [loopO_eq]
  congr 1
  funext x
  cases x <;> rfl
theorem firstO_step {σ ρ : Type} (n : Nat) (b : Nat → Option ρ) (s : σ) (k : σ → Option ρ) : ((firstO n (fun i => (b i).map Sum.inr) (some (.inl s))).bind (Sum.elim k some)) = firstO n b (k s) := by
  rcases first_cases n b with h | ⟨i, r, hi, hj, hr⟩
  · rw [firstO_none h, firstO_none (fun i hi => by rw [h i hi]; rfl)]; rfl
  · rw [firstO_some hi hj hr, firstO_some (r := .inr r) hi (fun j hl => by rw [hj j hl]; rfl) (by rw [hr]; rfl)]; rfl
theorem mget_counts {κ : Type} [DecidableEq κ] (xs : List κ) (k : κ) : mget k (xs.foldl (fun m x => mset x (w64 (mget x m 0 + 1)) m) []) 0 = xs.foldl (fun a x => bif decide (x = k) then w64 (a + 1) else a) (0 : Int) := by
  have key : ∀ (xs : List κ) (m : List (κ × Int)), mget k (xs.foldl (fun m x => mset x (w64 (mget x m 0 + 1)) m) m) 0 = xs.foldl (fun a x => bif decide (x = k) then w64 (a + 1) else a) (mget k m 0) := by
    intro xs
    induction xs with
    | nil => intro m; rfl
    | cons x xs ih =>
      intro m
      rw [List.foldl_cons, ih, List.foldl_cons, mget_mset]
      by_cases hk : x = k
      · subst hk; simp
      · rw [if_neg (fun h => hk h.symm)]; simp [hk]
  rw [key]
  rfl
theorem firstO_mem {ρ : Type} {n : Nat} {b : Nat → Option ρ} {e : Option ρ} {r : ρ} (h : firstO n b e = some r) : (∃ i, i < n ∧ b i = some r) ∨ ((∀ i, i < n → b i = none) ∧ e = some r) := by
  rcases first_cases n b with h1 | ⟨i, r', hi, hj, hr⟩
  · rw [firstO_none h1] at h; exact .inr ⟨h1, h⟩
  · rw [firstO_some hi hj hr] at h; exact .inl ⟨i, hi, hr.trans h⟩
theorem bif_some {α : Type} {b : Bool} {x y : α} (h : (bif b then some x else none) = some y) : b = true ∧ x = y := by
  cases b
  · cases h
  · exact ⟨rfl, by simpa using h⟩
theorem bif_none {α : Type} {b : Bool} {x : α} (h : (bif b then some x else none) = none) : b = false := by
  cases b
  · rfl
  · cases h
theorem firstO_elim {σ ρ : Type} (n : Nat) (b : Nat → Option ρ) (s : σ) : firstO n (fun i => (b i).map Sum.inr) (some (.inl s)) = some ((firstO n b none).elim (.inl s) .inr) := by
  rcases first_cases n b with h | ⟨i, r, hi, hj, hr⟩
  · rw [firstO_none h, firstO_none (fun i hi => by rw [h i hi]; rfl)]; rfl
  · rw [firstO_some hi hj hr, firstO_some (r := .inr r) hi (fun j hl => by rw [hj j hl]; rfl) (by rw [hr]; rfl)]; rfl
theorem firstO_no {ρ : Type} {n : Nat} {b : Nat → Option ρ} {e : Option ρ} (h : firstO n b e = none) : ∀ i, i < n → b i = none := by
  rcases first_cases n b with h1 | ⟨i, r, hi, hj, hr⟩
  · exact h1
  · rw [firstO_some hi hj hr] at h; cases h
/-- Two loops that do the same. -/
theorem loop_twin {σ ρ : Type} {F F' : σ → Option (σ ⊕ ρ)} (n : Nat) (Inv : Nat → σ → Prop) (s0 : σ) (h0 : Inv 0 s0) (h : ∀ i s, i < n → Inv i s → F s = F' s ∧ ((∃ s', F' s = some (.inl s') ∧ Inv (i + 1) s') ∨ ∃ r, F' s = some (.inr r))) (hend : ∀ s, Inv n s → F s = F' s ∧ ∃ r, F' s = some (.inr r)) : ∃ r, loopO F s0 = some r ∧ loopO F' s0 = some r := by
  have key : ∀ k i s, i + k = n → Inv i s → ∃ r, loopO F s = some r ∧ loopO F' s = some r := by
    intro k
    induction k with
    | zero =>
      intro i s hi hs
      have : i = n := by omega
      subst this
      obtain ⟨h1, r, h2⟩ := hend s hs
      exact ⟨r, by rw [loopO_eq, h1, h2]; rfl, by rw [loopO_eq, h2]; rfl⟩
    | succ k ih =>
      intro i s hi hs
      obtain ⟨h1, h2⟩ := h i s (by omega) hs
      rcases h2 with ⟨s', h2, h3⟩ | ⟨r, h2⟩
      · obtain ⟨r, h4, h5⟩ := ih (i + 1) s' (by omega) h3
        exact ⟨r, by rw [loopO_eq, h1, h2]; exact h4, by rw [loopO_eq, h2]; exact h5⟩
      · exact ⟨r, by rw [loopO_eq, h1, h2]; rfl, by rw [loopO_eq, h2]; rfl⟩
  exact key n 0 s0 (by omega) h0
/-- Is a byte one of a name's? -/
def nameByte (c : Int) : Bool := ((decide (c ≥ (97:Int)) && decide (c ≤ (122:Int))) || (decide (c ≥ (48:Int)) && decide (c ≤ (57:Int)))) || (c == (95:Int))
def namedB (s : ByteArray) : Bool := ((List.range s.size).all fun i => nameByte ((byteAt s (i : Int)).getD 0)) && (decide ((s.size : Int) ≥ (1:Int)) && decide ((s.size : Int) ≤ (20:Int)))
theorem l11name_eq {s : ByteArray} (h : s.size ≤ 9223372036854775807) : f329 s = some (namedB s) := by
  unfold f329
  refine (loop_find s.size (fun i => (i : Int)) (fun i => bif nameByte ((byteAt s (i : Int)).getD 0) then none else some false) (some (decide ((s.size : Int) ≥ (1:Int)) && decide ((s.size : Int) ≤ (20:Int)))) (fun i hi _ => ?_) (fun _ => ?_)).trans (firstO_all _ _ _)
  · unfold f329_L1
    have hb := byteAt_ok hi
    generalize (byteAt s (i : Int)).getD 0 = c at hb ⊢
    simp only [lt_t hi, cond_true, hb, Option.bind_some, w64_nat (show i < 9223372036854775807 by omega)]
    show (bif !(nameByte c) then _ else _) = _
    cases nameByte c <;> rfl
  · unfold f329_L1
    simp only [lt_f, cond_false]
theorem named_eq {s : ByteArray} (h : s.size ≤ 9223372036854775807) : f335 s = some (namedB s) := by
  unfold f335
  have h1 : (decide ((s.size : Int) ≥ (1:Int)) && decide ((s.size : Int) ≤ (20:Int))) = !(decide ((s.size : Int) < (1:Int)) || decide ((s.size : Int) > (20:Int))) := by
    rw [Bool.eq_iff_iff]; simp
  unfold namedB
  rw [h1]
  cases decide ((s.size : Int) < (1:Int)) || decide ((s.size : Int) > (20:Int)) with
  | true => simp
  | false =>
    rw [cond_false]
    refine (loop_find s.size (fun i => (i : Int)) (fun i => bif nameByte ((byteAt s (i : Int)).getD 0) then none else some false) (some true) (fun i hi _ => ?_) (fun _ => ?_)).trans (firstO_all _ _ _)
    · unfold f335_L1
      have hb := byteAt_ok hi
      generalize (byteAt s (i : Int)).getD 0 = c at hb ⊢
      simp only [lt_t hi, cond_true, hb, Option.bind_some, w64_nat (show i < 9223372036854775807 by omega)]
      show (bif !(nameByte c) then _ else _) = _
      cases nameByte c <;> rfl
    · unfold f335_L1
      simp only [lt_f, cond_false]
def okP (p : Piece) : Bool := ((((((namedB p.Name && decide (p.Len ≥ (1:Int))) && decide (p.Len ≤ (10000000:Int))) && decide (p.Speed ≥ (1:Int))) && decide (p.Speed ≤ (10000:Int))) && decide (p.Brake ≥ (1:Int))) && decide (p.Brake ≤ (1000:Int)))
def badP (n : Net) (i : Nat) : Bool := (n.Pieces[i]?).any fun p => !okP p || (n.Pieces.take i).any fun q => decide (q.Name = p.Name)
def okE (n : Net) (e : End) : Bool := (decide (e.Piece ≥ (0:Int)) && decide (e.Piece < (n.Pieces.length : Int))) && (decide (e.Side ≥ (0:Int)) && decide (e.Side ≤ (1:Int)))
def bad3 (n : Net) (c : Joint) : Bool := (decide (c.Kind < (1:Int)) || decide (c.Kind > (4:Int))) || ((c.Ends.length : Int) != c.Kind) || c.Ends.any fun e => !okE n e
def bad4 (n : Net) (i : Nat) (c : Joint) : Bool := bif decide (c.Kind ≤ (2:Int)) then !decide (c.Name = ({ data := #[] } : ByteArray)) else !namedB c.Name || (n.Joints.take i).any fun d => decide (d.Name = c.Name)
def endsOf (n : Net) : List End := n.Joints.flatMap (·.Ends)
def usesOf (n : Net) (e : End) : Int := (endsOf n).foldl (fun a x => bif decide (x = e) then w64 (a + 1) else a) 0
def bad5 (n : Net) (i : Nat) : Bool := (usesOf n ⟨(i : Int), 0⟩ != 1) || (usesOf n ⟨(i : Int), 1⟩ != 1)
def netO (n : Net) : Option Fault :=
  bif ((((n.Pieces.length : Int) == (0:Int)) || decide ((n.Pieces.length : Int) > (100:Int))) || decide ((n.Joints.length : Int) > (120:Int))) then some ⟨1, 0⟩ else
  firstO n.Pieces.length (fun i => bif badP n i then some ⟨2, (i : Int)⟩ else none) <|
  firstO n.Joints.length (fun i => bif (n.Joints[i]?).any (bad3 n) then some ⟨3, (i : Int)⟩ else none) <|
  firstO n.Joints.length (fun i => bif (n.Joints[i]?).any (bad4 n i) then some ⟨4, (i : Int)⟩ else none) <|
  firstO n.Pieces.length (fun i => bif bad5 n i then some ⟨5, (i : Int)⟩ else none) (some ⟨0, 0⟩)
theorem netO_is (n : Net) : ∃ r, netO n = some r := by
  unfold netO
  cases ((((n.Pieces.length : Int) == (0:Int)) || decide ((n.Pieces.length : Int) > (100:Int))) || decide ((n.Joints.length : Int) > (120:Int))) with
  | true => exact ⟨_, rfl⟩
  | false => exact firstO_is _ _ (firstO_is _ _ (firstO_is _ _ (firstO_is _ _ ⟨_, rfl⟩)))
theorem in_eq (x a b : Int) : f330 x a b = some (decide (x ≥ a) && decide (x ≤ b)) := rfl
theorem w64_i {n : Nat} (h : n ≤ 1048576) (i : Nat) (hi : i < n) : w64 ((i : Int) + 1) = ((i + 1 : Nat) : Int) := w64_nat (by omega)
/-- What the rules ask of the pieces, as the reference says it. -/
theorem spec_piece {x : Net} (hx : fitNet x) (hs : smNet x) {i : Nat} (hi : i < x.Pieces.length) : f284_L1 x (i : Int) = some ((bif badP x i then some (⟨2, (i : Int)⟩ : Fault) else none).elim (.inl (((i + 1 : Nat) : Int))) .inr) := by
  have hl := hs.1.1
  obtain ⟨p, hp⟩ : ∃ p, x.Pieces[i]? = some p := ⟨_, List.getElem?_eq_getElem hi⟩
  have hf := hx.1.2 p (List.mem_of_getElem? hp)
  have hL : loopO (f284_L2 x (i : Int) p) (0 : Int) = some (bif (x.Pieces.take i).any fun q => decide (q.Name = p.Name) then .inr ⟨2, (i : Int)⟩ else .inl ((i + 1 : Nat) : Int)) := by
    refine (loop_find i (fun j => (j : Int)) (fun j => bif (x.Pieces[j]?).any (fun q => decide (q.Name = p.Name)) then some (.inr ⟨2, (i : Int)⟩) else none) (some (.inl ((i + 1 : Nat) : Int))) (fun j hj _ => ?_) (fun _ => ?_)).trans ?_
    · unfold f284_L2
      have hjl : j < x.Pieces.length := by omega
      simp only [lt_t hj, cond_true, getI_nat, List.getElem?_eq_getElem hjl, Option.bind_some, str_eq, w64_nat (show j < 9223372036854775807 by omega), Option.any_some]
      cases decide (x.Pieces[j].Name = p.Name) <;> rfl
    · unfold f284_L2
      simp only [lt_f, cond_false, w64_nat (show i < 9223372036854775807 by omega)]
    · rw [firstO_any, range_any_take, cond_some]
  unfold f284_L1
  simp only [lt_t hi, cond_true, getI_nat, hp, Option.bind_some, l11name_eq hf.1, in_eq, cond_some, hL]
  have hb : badP x i = (!okP p || (x.Pieces.take i).any fun q => decide (q.Name = p.Name)) := by unfold badP; rw [hp]; rfl
  rw [hb]
  unfold okP
  cases namedB p.Name <;> cases decide (p.Len ≥ (1:Int)) <;> cases decide (p.Len ≤ (10000000:Int)) <;> cases decide (p.Speed ≥ (1:Int)) <;> cases decide (p.Speed ≤ (10000:Int)) <;> cases decide (p.Brake ≥ (1:Int)) <;> cases decide (p.Brake ≤ (1000:Int)) <;> cases ((x.Pieces.take i).any fun q => decide (q.Name = p.Name)) <;> rfl
def namesOf (x : Net) (i : Nat) : List (ByteArray × Bool) := (x.Pieces.take i).foldl (fun m p => bif true then mset p.Name true m else m) []
theorem impl_piece {x : Net} (hx : fitNet x) (hs : smNet x) {i : Nat} (hi : i < x.Pieces.length) : f288_L1 x (namesOf x i, (i : Int)) = some ((bif badP x i then some (⟨2, (i : Int)⟩ : Fault) else none).elim (.inl ((namesOf x (i + 1), ((i + 1 : Nat) : Int)))) .inr) := by
  have hl := hs.1.1
  obtain ⟨p, hp⟩ : ∃ p, x.Pieces[i]? = some p := ⟨_, List.getElem?_eq_getElem hi⟩
  have hf := hx.1.2 p (List.mem_of_getElem? hp)
  have hm : mget p.Name (namesOf x i) false = (x.Pieces.take i).any fun q => decide (q.Name = p.Name) := by
    unfold namesOf
    rw [mget_keys (fun _ => true) (fun q : Piece => q.Name)]
    rfl
  have hn : namesOf x (i + 1) = mset p.Name true (namesOf x i) := foldl_take _ _ hp
  have hb : badP x i = (!okP p || (x.Pieces.take i).any fun q => decide (q.Name = p.Name)) := by unfold badP; rw [hp]; rfl
  have ho : f334 p = some (okP p) := by
    unfold f334
    rw [named_eq hf.1]; rfl
  unfold f288_L1
  simp only [lt_t hi, cond_true, getI_nat, hp, Option.bind_some, ho, hm, hb, hn, w64_nat (show i < 9223372036854775807 by omega)]
  cases okP p <;> cases ((x.Pieces.take i).any fun q => decide (q.Name = p.Name)) <;> rfl
theorem end_eq {x : Net} (hs : smNet x) (e : End) : f352 x e = some (okE x e) := by
  have h1 := hs.1.1
  unfold f352
  simp only [in_eq, Option.bind_some, cond_some]
  rw [le_pred (by omega)]
  unfold okE
  cases decide (e.Piece ≥ (0:Int)) <;> cases decide (e.Piece < (x.Pieces.length : Int)) <;> rfl
theorem lt3 (k : Int) : decide (k < (3:Int)) = decide (k ≤ (2:Int)) := by congr 1; apply propext; omega
theorem spec_joint {x : Net} (hx : fitNet x) (hs : smNet x) {i : Nat} {c : Joint} (hc : x.Joints[i]? = some c) : f331 x (i : Int) = some (bif bad3 x c then 3 else bif bad4 x i c then 4 else 0) := by
  have hi := get_lt hc
  have hl := hs.2.1
  have hm := List.mem_of_getElem? hc
  have hf := hx.2.2 c hm
  have hel : c.Ends.length ≤ 1048576 := (hs.2.2 c hm).1
  have hL2 : loopO (f331_L2 x (i : Int) c) (0 : Int) = some (bif (x.Joints.take i).any fun q => decide (q.Name = c.Name) then 4 else 0) := by
    refine (loop_find i (fun j => (j : Int)) (fun j => bif (x.Joints[j]?).any (fun q => decide (q.Name = c.Name)) then some 4 else none) (some 0) (fun j hj _ => ?_) (fun _ => ?_)).trans ?_
    · unfold f331_L2
      have hjl : j < x.Joints.length := by omega
      simp only [lt_t hj, cond_true, getI_nat, List.getElem?_eq_getElem hjl, Option.bind_some, str_eq, w64_nat (show j < 9223372036854775807 by omega), Option.any_some]
      cases decide (x.Joints[j].Name = c.Name) <;> rfl
    · unfold f331_L2
      simp only [lt_f, cond_false]
    · rw [firstO_any, range_any_take, cond_some]
  have hL1 : loopO (f331_L1 x (i : Int) c) (0 : Int) = some (bif c.Ends.any (fun e => !okE x e) then 3 else bif bad4 x i c then 4 else 0) := by
    refine (loop_find c.Ends.length (fun j => (j : Int)) (fun j => bif (c.Ends[j]?).any (fun e => !okE x e) then some 3 else none) (some (bif bad4 x i c then 4 else 0)) (fun j hj _ => ?_) (fun _ => ?_)).trans ?_
    · unfold f331_L1
      simp only [lt_t hj, cond_true, getI_nat, List.getElem?_eq_getElem hj, Option.bind_some, end_eq hs, w64_nat (show j < 9223372036854775807 by omega), Option.any_some]
      cases okE x c.Ends[j] <;> rfl
    · unfold f331_L1
      simp only [lt_f, cond_false, l11name_eq hf.2.1, hL2, Option.bind_some, str_eq, lt3, cond_some]
      unfold bad4
      cases decide (c.Kind ≤ (2:Int)) <;> cases decide (c.Name = ({ data := #[] } : ByteArray)) <;> cases namedB c.Name <;> cases ((x.Joints.take i).any fun d => decide (d.Name = c.Name)) <;> rfl
    · rw [firstO_any, range_any_take, List.take_length, cond_some]
  unfold f331
  simp only [getI_nat, hc, Option.bind_some, in_eq, hL1, cond_some]
  have hk : (!(decide (c.Kind ≥ (1:Int)) && decide (c.Kind ≤ (4:Int)))) = (decide (c.Kind < (1:Int)) || decide (c.Kind > (4:Int))) := by
    rw [Bool.eq_iff_iff]; simp
  rw [hk]
  unfold bad3
  cases (decide (c.Kind < (1:Int)) || decide (c.Kind > (4:Int))) <;> cases ((c.Ends.length : Int) != c.Kind) <;> cases (c.Ends.any fun e => !okE x e) <;> rfl
theorem end_is (a b : End) : ((a.Piece == b.Piece) && ((a.Side == b.Side) && true)) = decide (a = b) := by
  cases a; cases b
  rw [Bool.eq_iff_iff]
  simp
theorem spec_uses {x : Net} (hs : smNet x) (e : End) : f332 x e = some (usesOf x e) := by
  have hl := hs.2.1
  unfold f332
  refine (loop_fold x.Joints (fun a (c : Joint) => c.Ends.foldl (fun a x => bif decide (x = e) then w64 (a + 1) else a) a) 0 some (fun a i c hc => ?_) (fun a => ?_)).trans ?_
  · have hi := get_lt hc
    have hel : c.Ends.length ≤ 1048576 := (hs.2.2 c (List.mem_of_getElem? hc)).1
    unfold f332_L1
    simp only [lt_t hi, cond_true, getI_nat, hc, Option.bind_some]
    refine (loop_fold c.Ends (fun a x => bif decide (x = e) then w64 (a + 1) else a) a (fun a => (some (.inl (a, ((i + 1 : Nat) : Int))) : Option ((Int × Int) ⊕ Int))) (fun b j y hy => ?_) (fun b => ?_))
    · have hj := get_lt hy
      unfold f332_L2 f332_k3
      simp only [lt_t hj, cond_true, getI_nat, hy, Option.bind_some, end_is, w64_nat (show j < 9223372036854775807 by omega)]
      cases decide (y = e) <;> rfl
    · unfold f332_L2
      simp only [lt_f, cond_false, w64_nat (show i < 9223372036854775807 by omega)]
  · unfold f332_L1
    simp only [lt_f, cond_false]
  · unfold usesOf endsOf
    rw [List.foldl_flatMap]
theorem lt2 {i : Nat} (h : i < 2) : decide ((i : Int) < (2:Int)) = true := by rw [decide_eq_true_eq]; omega
/-- The ends, as the reference counts them. -/
theorem spec_ends {x : Net} (hs : smNet x) : loopO (f284_L5 x) (0 : Int) = firstO x.Pieces.length (fun i => bif bad5 x i then some ⟨5, (i : Int)⟩ else none) (some ⟨0, 0⟩) := by
  have hl := hs.1.1
  refine loop_find x.Pieces.length (fun i => (i : Int)) _ _ (fun i hi _ => ?_) (fun _ => ?_)
  · unfold f284_L5
    simp only [lt_t hi, cond_true]
    refine (loop_find 2 (fun s => (s : Int)) (fun s => bif usesOf x ⟨(i : Int), (s : Int)⟩ != 1 then some (.inr ⟨5, (i : Int)⟩) else none) (some (.inl ((i + 1 : Nat) : Int))) (fun s hs2 _ => ?_) (fun _ => ?_)).trans ?_
    · unfold f284_L6
      simp only [lt2 hs2, cond_true, spec_uses hs, Option.bind_some, w64_nat (show s < 9223372036854775807 by omega)]
      cases (usesOf x ⟨(i : Int), (s : Int)⟩ != 1) <;> rfl
    · unfold f284_L6
      have : decide (((2 : Nat) : Int) < (2:Int)) = false := by decide
      simp only [this, cond_false, w64_nat (show i < 9223372036854775807 by omega)]
    · rw [firstO_any]
      unfold bad5
      have : ((List.range 2).any fun s : Nat => usesOf x ⟨(i : Int), (s : Int)⟩ != 1) = ((usesOf x ⟨(i : Int), 0⟩ != 1) || (usesOf x ⟨(i : Int), 1⟩ != 1)) := by
        simp [List.range_succ]
      rw [this]
      cases ((usesOf x ⟨(i : Int), 0⟩ != 1) || (usesOf x ⟨(i : Int), 1⟩ != 1)) <;> rfl
  · unfold f284_L5
    simp only [lt_f, cond_false]
theorem spec_code {x : Net} (hx : fitNet x) (hs : smNet x) (k : Nat) (hk : k < 100) : loopO (f284_L4 x (k : Int)) (0 : Int) = firstO x.Joints.length (fun i => (bif (x.Joints[i]?).any (fun c => (bif bad3 x c then 3 else bif bad4 x i c then 4 else 0) == (k : Int)) then some (⟨(k : Int), (i : Int)⟩ : Fault) else none).map Sum.inr) (some (.inl ((k + 1 : Nat) : Int))) := by
  have hl := hs.2.1
  refine loop_find x.Joints.length (fun i => (i : Int)) _ _ (fun i hi _ => ?_) (fun _ => ?_)
  · unfold f284_L4
    simp only [lt_t hi, cond_true, spec_joint hx hs (List.getElem?_eq_getElem hi), List.getElem?_eq_getElem hi, Option.any_some, Option.bind_some, w64_nat (show i < 9223372036854775807 by omega)]
    cases ((bif bad3 x x.Joints[i] then 3 else bif bad4 x i x.Joints[i] then 4 else 0) == (k : Int)) <;> rfl
  · unfold f284_L4
    simp only [lt_f, cond_false, w64_nat (show k < 9223372036854775807 by omega)]
theorem spec_net {x : Net} (hx : fitNet x) (hs : smNet x) : f284 x = netO x := by
  have hl := hs.1.1
  unfold f284 netO
  cases ((((x.Pieces.length : Int) == (0:Int)) || decide ((x.Pieces.length : Int) > (100:Int))) || decide ((x.Joints.length : Int) > (120:Int))) with
  | true => rfl
  | false =>
    rw [cond_false, cond_false]
    refine loop_find x.Pieces.length (fun i => (i : Int)) _ _ (fun i hi _ => spec_piece hx hs hi) (fun _ => ?_)
    unfold f284_L1
    simp only [lt_f, cond_false]
    congr 1
    rw [loopO_elim]
    have e3 : f284_L3 x (3:Int) = loopO (f284_L4 x ((3 : Nat) : Int)) 0 := rfl
    have e4 : f284_L3 x (4:Int) = loopO (f284_L4 x ((4 : Nat) : Int)) 0 := rfl
    have e5 : f284_L3 x (5:Int) = (loopO (f284_L5 x) 0).map Sum.inr := rfl
    rw [e3, spec_code hx hs 3 (by decide), firstO_step]
    show firstO _ _ (loopO _ (4 : Int)) = _
    rw [loopO_elim, e4, spec_code hx hs 4 (by decide), firstO_step]
    show firstO _ _ (firstO _ _ (loopO _ (5 : Int))) = _
    rw [loopO_elim, e5, spec_ends hs]
    refine firstO_congr (fun i hi => ?_) (fun h3 => ?_)
    · simp only [List.getElem?_eq_getElem hi, Option.any_some]
      cases bad3 x x.Joints[i] <;> cases bad4 x i x.Joints[i] <;> rfl
    · refine firstO_congr (fun i hi => ?_) (fun _ => ?_)
      · have := h3 i hi
        simp only [List.getElem?_eq_getElem hi, Option.any_some] at this ⊢
        revert this
        cases bad3 x x.Joints[i] <;> cases bad4 x i x.Joints[i] <;> simp
      · obtain ⟨r, hr⟩ := firstO_is x.Pieces.length (fun i => bif bad5 x i then some (⟨5, (i : Int)⟩ : Fault) else none) (e := some ⟨0, 0⟩) ⟨_, rfl⟩
        rw [hr]; rfl
def jnamesOf (x : Net) (i : Nat) : List (ByteArray × Bool) := (x.Joints.take i).foldl (fun m c => bif !decide (c.Kind ≤ (2:Int)) then mset c.Name true m else m) []
theorem named_empty : namedB ({ data := #[] } : ByteArray) = false := by decide
theorem impl_joint3 {x : Net} (hs : smNet x) {i : Nat} (hi : i < x.Joints.length) : f288_L2 x (i : Int) = some ((bif (x.Joints[i]?).any (bad3 x) then some (⟨3, (i : Int)⟩ : Fault) else none).elim (.inl ((i + 1 : Nat) : Int)) .inr) := by
  have hl := hs.2.1
  obtain ⟨c, hc⟩ : ∃ c, x.Joints[i]? = some c := ⟨_, List.getElem?_eq_getElem hi⟩
  have hel : c.Ends.length ≤ 1048576 := (hs.2.2 c (List.mem_of_getElem? hc)).1
  have hL : loopO (f288_L3 x (i : Int) c) (0 : Int) = some (bif c.Ends.any (fun e => !okE x e) then .inr ⟨3, (i : Int)⟩ else .inl ((i + 1 : Nat) : Int)) := by
    refine (loop_find c.Ends.length (fun j => (j : Int)) (fun j => bif (c.Ends[j]?).any (fun e => !okE x e) then some (.inr ⟨3, (i : Int)⟩) else none) (some (.inl ((i + 1 : Nat) : Int))) (fun j hj _ => ?_) (fun _ => ?_)).trans ?_
    · unfold f288_L3
      have hb : (((decide (c.Ends[j].Piece < (0:Int)) || decide (c.Ends[j].Piece ≥ (x.Pieces.length : Int))) || decide (c.Ends[j].Side < (0:Int))) || decide (c.Ends[j].Side > (1:Int))) = !okE x c.Ends[j] := by
        unfold okE
        rw [Bool.eq_iff_iff]; simp; omega
      simp only [lt_t hj, cond_true, getI_nat, List.getElem?_eq_getElem hj, Option.bind_some, hb, w64_nat (show j < 9223372036854775807 by omega), Option.any_some]
      cases okE x c.Ends[j] <;> rfl
    · unfold f288_L3
      simp only [lt_f, cond_false, w64_nat (show i < 9223372036854775807 by omega)]
    · rw [firstO_any, range_any_take, List.take_length, cond_some]
  unfold f288_L2
  simp only [lt_t hi, cond_true, getI_nat, hc, Option.bind_some, hL, Option.any_some]
  unfold bad3
  cases (decide (c.Kind < (1:Int)) || decide (c.Kind > (4:Int))) <;> cases ((c.Ends.length : Int) != c.Kind) <;> cases (c.Ends.any fun e => !okE x e) <;> rfl
theorem impl_joint4 {x : Net} (hx : fitNet x) (hs : smNet x) {i : Nat} (hi : i < x.Joints.length) (hb : ∀ j, j < i → (bif (x.Joints[j]?).any (bad4 x j) then some (⟨4, (j : Int)⟩ : Fault) else none) = none) : f288_L4 x (jnamesOf x i, (i : Int)) = some ((bif (x.Joints[i]?).any (bad4 x i) then some (⟨4, (i : Int)⟩ : Fault) else none).elim (.inl (jnamesOf x (i + 1), ((i + 1 : Nat) : Int))) .inr) := by
  have hl := hs.2.1
  obtain ⟨c, hc⟩ : ∃ c, x.Joints[i]? = some c := ⟨_, List.getElem?_eq_getElem hi⟩
  have hf := hx.2.2 c (List.mem_of_getElem? hc)
  have hn : jnamesOf x (i + 1) = bif !decide (c.Kind ≤ (2:Int)) then mset c.Name true (jnamesOf x i) else jnamesOf x i := foldl_take _ _ hc
  have hm : mget c.Name (jnamesOf x i) false = (x.Joints.take i).any fun d => (!decide (d.Kind ≤ (2:Int))) && decide (d.Name = c.Name) := by
    unfold jnamesOf
    rw [mget_keys (fun d : Joint => !decide (d.Kind ≤ (2:Int))) (fun d : Joint => d.Name)]
  have ha : namedB c.Name = true → ((x.Joints.take i).any fun d => (!decide (d.Kind ≤ (2:Int))) && decide (d.Name = c.Name)) = (x.Joints.take i).any fun d => decide (d.Name = c.Name) := by
    intro hn
    rw [← range_any_take, ← range_any_take, Bool.eq_iff_iff, List.any_eq_true, List.any_eq_true]
    constructor
    · rintro ⟨j, hj, h⟩
      refine ⟨j, hj, ?_⟩
      cases hd : x.Joints[j]? with
      | none => rw [hd] at h; cases h
      | some d => rw [hd] at h; simp only [Option.any_some, Bool.and_eq_true] at h ⊢; exact h.2
    · rintro ⟨j, hj, h⟩
      refine ⟨j, hj, ?_⟩
      have hbj := hb j (List.mem_range.1 hj)
      cases hd : x.Joints[j]? with
      | none => rw [hd] at h; cases h
      | some d =>
        rw [hd] at h hbj
        simp only [Option.any_some, Bool.and_eq_true] at h hbj ⊢
        refine ⟨?_, h⟩
        cases hk : decide (d.Kind ≤ (2:Int)) with
        | false => rfl
        | true =>
          exfalso
          unfold bad4 at hbj
          rw [hk, cond_true] at hbj
          simp only [decide_eq_true_eq] at h
          rw [h] at hbj
          cases he : decide (c.Name = ({ data := #[] } : ByteArray)) with
          | false => rw [he] at hbj; simp at hbj
          | true =>
            simp only [decide_eq_true_eq] at he
            rw [he, named_empty] at hn
            cases hn
  unfold f288_L4 f288_k5
  simp only [lt_t hi, cond_true, getI_nat, hc, Option.bind_some, named_eq hf.2.1, hm, Option.any_some, str_eq, w64_nat (show i < 9223372036854775807 by omega), hn]
  unfold bad4
  cases decide (c.Kind ≤ (2:Int)) with
  | true => cases decide (c.Name = ({ data := #[] } : ByteArray)) <;> rfl
  | false =>
    cases hn : namedB c.Name with
    | false => rfl
    | true =>
      rw [ha hn]
      cases ((x.Joints.take i).any fun d => decide (d.Name = c.Name)) <;> rfl
def countsOf (x : Net) : List (End × Int) := (endsOf x).foldl (fun m e => mset e (w64 (mget e m 0 + 1)) m) []
theorem impl_ends {x : Net} (hs : smNet x) : loopO (f288_L6 x) (([] : List (End × Int)), (0:Int)) = firstO x.Pieces.length (fun i => bif bad5 x i then some ⟨5, (i : Int)⟩ else none) (some ⟨0, 0⟩) := by
  have hl := hs.2.1
  have hp := hs.1.1
  refine (loop_fold x.Joints (fun m (c : Joint) => c.Ends.foldl (fun m e => mset e (w64 (mget e m 0 + 1)) m) m) [] (fun m => loopO (f288_L8 x m) (0:Int)) (fun a i c hc => ?_) (fun a => ?_)).trans ?_
  · have hi := get_lt hc
    have hel : c.Ends.length ≤ 1048576 := (hs.2.2 c (List.mem_of_getElem? hc)).1
    unfold f288_L6
    simp only [lt_t hi, cond_true, getI_nat, hc, Option.bind_some]
    refine (loop_fold c.Ends (fun m e => mset e (w64 (mget e m 0 + 1)) m) a (fun a => (some (.inl (a, ((i + 1 : Nat) : Int))) : Option ((List (End × Int) × Int) ⊕ Fault))) (fun b j y hy => ?_) (fun b => ?_))
    · have hj := get_lt hy
      unfold f288_L7
      simp only [lt_t hj, cond_true, getI_nat, hy, Option.bind_some, w64_nat (show j < 9223372036854775807 by omega)]
    · unfold f288_L7
      simp only [lt_f, cond_false, w64_nat (show i < 9223372036854775807 by omega)]
  · unfold f288_L6
    simp only [lt_f, cond_false]
  · have he : x.Joints.foldl (fun m (c : Joint) => c.Ends.foldl (fun m e => mset e (w64 (mget e m 0 + 1)) m) m) [] = countsOf x := by
      unfold countsOf endsOf
      rw [List.foldl_flatMap]
    have hu : ∀ e, mget e (countsOf x) 0 = usesOf x e := fun e => mget_counts _ _
    rw [he]
    refine loop_find x.Pieces.length (fun i => (i : Int)) _ _ (fun i hi _ => ?_) (fun _ => ?_)
    · unfold f288_L8
      simp only [lt_t hi, cond_true, hu, w64_nat (show i < 9223372036854775807 by omega)]
      unfold bad5
      cases ((usesOf x ⟨(i : Int), 0⟩ != 1) || (usesOf x ⟨(i : Int), 1⟩ != 1)) <;> rfl
    · unfold f288_L8
      simp only [lt_f, cond_false]
theorem impl_net {x : Net} (hx : fitNet x) (hs : smNet x) : f288 x = netO x := by
  have hl := hs.1.1
  have hl2 := hs.2.1
  unfold f288 netO
  cases ((((x.Pieces.length : Int) == (0:Int)) || decide ((x.Pieces.length : Int) > (100:Int))) || decide ((x.Joints.length : Int) > (120:Int))) with
  | true => rfl
  | false =>
    rw [cond_false, cond_false]
    refine loop_find x.Pieces.length (fun i => (namesOf x i, (i : Int))) _ _ (fun i hi _ => impl_piece hx hs hi) (fun _ => ?_)
    unfold f288_L1
    simp only [lt_f, cond_false]
    congr 1
    refine loop_find x.Joints.length (fun i => (i : Int)) _ _ (fun i hi _ => impl_joint3 hs hi) (fun _ => ?_)
    unfold f288_L2
    simp only [lt_f, cond_false]
    congr 1
    refine loop_find x.Joints.length (fun i => (jnamesOf x i, (i : Int))) _ _ (fun i hi hb => impl_joint4 hx hs hi hb) (fun _ => ?_)
    unfold f288_L4
    simp only [lt_f, cond_false]
    congr 1
    exact impl_ends hs
theorem netO_code {x : Net} {r : Fault} (h : netO x = some r) : ((r.Code == 0) && ((r.At == 0) && true)) = (r.Code == 0) := by
  have key : r = ⟨0, 0⟩ ∨ (r.Code == 0) = false := by
    unfold netO at h
    cases hc : ((((x.Pieces.length : Int) == (0:Int)) || decide ((x.Pieces.length : Int) > (100:Int))) || decide ((x.Joints.length : Int) > (120:Int))) with
    | true => rw [hc] at h; simp only [cond_true, Option.some.injEq] at h; subst h; exact .inr rfl
    | false =>
      rw [hc, cond_false] at h
      rcases firstO_mem h with ⟨i, _, hi⟩ | ⟨_, h⟩
      · rw [← (bif_some hi).2]; exact .inr rfl
      rcases firstO_mem h with ⟨i, _, hi⟩ | ⟨_, h⟩
      · rw [← (bif_some hi).2]; exact .inr rfl
      rcases firstO_mem h with ⟨i, _, hi⟩ | ⟨_, h⟩
      · rw [← (bif_some hi).2]; exact .inr rfl
      rcases firstO_mem h with ⟨i, _, hi⟩ | ⟨_, h⟩
      · rw [← (bif_some hi).2]; exact .inr rfl
      exact .inl (by simpa using h.symm)
  rcases key with rfl | h
  · rfl
  · rw [h]; rfl
/-- Is a net right? -/
def goodNet (x : Net) : Bool := (netO x).any fun r => r.Code == 0
/-- What a right net is. -/
structure NetFacts (x : Net) : Prop where
  pos : 0 < x.Pieces.length
  le : x.Pieces.length ≤ 100
  jle : x.Joints.length ≤ 120
  p : ∀ i, i < x.Pieces.length → badP x i = false
  j3 : ∀ i, i < x.Joints.length → (x.Joints[i]?).any (bad3 x) = false
  j4 : ∀ i, i < x.Joints.length → (x.Joints[i]?).any (bad4 x i) = false
  e : ∀ i, i < x.Pieces.length → bad5 x i = false
theorem good_facts {x : Net} (h : goodNet x = true) : NetFacts x := by
  obtain ⟨r, hr⟩ := netO_is x
  unfold goodNet at h
  rw [hr] at h
  simp only [Option.any_some, beq_iff_eq] at h
  have h2 := hr
  unfold netO at h2
  cases hc : ((((x.Pieces.length : Int) == (0:Int)) || decide ((x.Pieces.length : Int) > (100:Int))) || decide ((x.Joints.length : Int) > (120:Int))) with
  | true => rw [hc] at h2; simp only [cond_true, Option.some.injEq] at h2; subst h2; cases h
  | false =>
    rw [hc, cond_false] at h2
    rcases firstO_mem h2 with ⟨i, _, hi⟩ | ⟨h3, h2⟩
    · rw [← (bif_some hi).2] at h; cases h
    rcases firstO_mem h2 with ⟨i, _, hi⟩ | ⟨h4, h2⟩
    · rw [← (bif_some hi).2] at h; cases h
    rcases firstO_mem h2 with ⟨i, _, hi⟩ | ⟨h5, h2⟩
    · rw [← (bif_some hi).2] at h; cases h
    rcases firstO_mem h2 with ⟨i, _, hi⟩ | ⟨h6, h2⟩
    · rw [← (bif_some hi).2] at h; cases h
    simp only [Bool.or_eq_false_iff, beq_eq_false_iff_ne, decide_eq_false_iff_not] at hc
    exact ⟨by omega, by omega, by omega, fun i hi => bif_none (h3 i hi), fun i hi => bif_none (h4 i hi), fun i hi => bif_none (h5 i hi), fun i hi => bif_none (h6 i hi)⟩
theorem good_piece {x : Net} (h : goodNet x = true) {i : Nat} {p : Piece} (hp : x.Pieces[i]? = some p) : okP p = true := by
  have := (good_facts h).p i (get_lt hp)
  unfold badP at this
  rw [hp] at this
  simp only [Option.any_some, Bool.or_eq_false_iff, Bool.not_eq_false'] at this
  exact this.1
theorem good_eq {x : Net} (hx : fitNet x) (hs : smNet x) : f199 x = some (goodNet x) := by
  obtain ⟨r, hr⟩ := netO_is x
  unfold f199 goodNet
  rw [impl_net hx hs, hr, Option.bind_some, netO_code hr]; rfl
theorem l22ok_eq {x : Net} (hx : fitNet x) (hs : smNet x) : f195 x = some (goodNet x) := by
  obtain ⟨r, hr⟩ := netO_is x
  unfold f195 goodNet
  rw [spec_net hx hs, hr]; rfl
theorem in22_eq (x a b : Int) : f221 x a b = some (decide (x ≥ a) && decide (x ≤ b)) := rfl
theorem within_eq (x a b : Int) : f171 x a b = some (decide (x ≥ a) && decide (x ≤ b)) := rfl
theorem nat_of {p : Int} {n : Nat} (h0 : 0 ≤ p) (h1 : p < (n : Int)) : ∃ k : Nat, p = (k : Int) ∧ k < n := ⟨p.toNat, by omega, by omega⟩
/-- A number of a piece, or none. -/
theorem piece_cases {n : Net} (hg : goodNet n = true) (q : Int) : (decide (q ≥ (0:Int)) && decide (q < (n.Pieces.length : Int))) = false ∨ ∃ (k : Nat) (p : Piece), q = (k : Int) ∧ n.Pieces[k]? = some p ∧ 1 ≤ p.Len ∧ p.Len ≤ 10000000 ∧ (decide (q ≥ (0:Int)) && decide (q < (n.Pieces.length : Int))) = true := by
  cases h : (decide (q ≥ (0:Int)) && decide (q < (n.Pieces.length : Int))) with
  | false => exact .inl rfl
  | true =>
    simp only [Bool.and_eq_true, decide_eq_true_eq] at h
    obtain ⟨k, hk, hl⟩ := nat_of h.1 h.2
    have hp := List.getElem?_eq_getElem hl
    have ho := good_piece hg hp
    unfold okP at ho
    simp only [Bool.and_eq_true, decide_eq_true_eq] at ho
    exact .inr ⟨k, _, hk, hp, ho.1.1.1.1.1.2, ho.1.1.1.1.2, rfl⟩
/-! ### Where an end is -/
def endsAt (n : Net) (j : Nat) : List End := ((n.Joints[j]?).map (·.Ends)).getD []
def atIn (n : Net) (e : End) (j : Nat) : Option (Int × Int) := firstO (endsAt n j).length (fun k => bif ((endsAt n j)[k]?).any (fun x => decide (x = e)) then some ((j : Int), (k : Int)) else none) none
def atO (n : Net) (e : End) : Option (Int × Int) := firstO n.Joints.length (atIn n e) (some (-1, -1))
theorem endsAt_some {n : Net} {j : Nat} {c : Joint} (hc : n.Joints[j]? = some c) : endsAt n j = c.Ends := by unfold endsAt; rw [hc]; rfl
theorem spec_at {n : Net} (hs : smNet n) (e : End) : f306 n e = atO n e := by
  have hl := hs.2.1
  unfold f306
  refine loop_find n.Joints.length (fun j => (j : Int)) _ _ (fun j hj _ => ?_) (fun _ => ?_)
  · have hc := List.getElem?_eq_getElem hj
    have hel : n.Joints[j].Ends.length ≤ 1048576 := (hs.2.2 _ (List.mem_of_getElem? hc)).1
    unfold f306_L1
    simp only [lt_t hj, cond_true, getI_nat, hc, Option.bind_some]
    unfold atIn
    rw [endsAt_some hc, ← firstO_elim]
    refine loop_find n.Joints[j].Ends.length (fun k => (k : Int)) _ _ (fun k hk _ => ?_) (fun _ => ?_)
    · unfold f306_L2
      simp only [lt_t hk, cond_true, getI_nat, List.getElem?_eq_getElem hk, Option.bind_some, end_is, Option.any_some, w64_nat (show k < 9223372036854775807 by omega)]
      cases decide (n.Joints[j].Ends[k] = e) <;> rfl
    · unfold f306_L2
      simp only [lt_f, cond_false, w64_nat (show j < 9223372036854775807 by omega)]
  · unfold f306_L1
    simp only [lt_f, cond_false]
theorem end_si (a b : End) : ((b.Piece == a.Piece) && ((b.Side == a.Side) && true)) = decide (a = b) := by
  rw [end_is, Bool.eq_iff_iff]
  simp only [decide_eq_true_eq]
  exact eq_comm
theorem impl_at {n : Net} (hs : smNet n) (e : End) : f336 n e = atO n e := by
  have hl := hs.2.1
  unfold f336
  refine loop_find n.Joints.length (fun j => (j : Int)) _ _ (fun j hj _ => ?_) (fun _ => ?_)
  · have hc := List.getElem?_eq_getElem hj
    have hel : n.Joints[j].Ends.length ≤ 1048576 := (hs.2.2 _ (List.mem_of_getElem? hc)).1
    unfold f336_L1
    simp only [lt_t hj, cond_true, getI_nat, hc, Option.bind_some]
    unfold atIn
    rw [endsAt_some hc, ← firstO_elim]
    refine loop_find n.Joints[j].Ends.length (fun k => (k : Int)) _ _ (fun k hk _ => ?_) (fun _ => ?_)
    · unfold f336_L2
      simp only [lt_t hk, cond_true, getI_nat, List.getElem?_eq_getElem hk, Option.bind_some, end_si, Option.any_some, w64_nat (show k < 9223372036854775807 by omega)]
      cases decide (n.Joints[j].Ends[k] = e) <;> rfl
    · unfold f336_L2
      simp only [lt_f, cond_false, w64_nat (show j < 9223372036854775807 by omega)]
  · unfold f336_L1
    simp only [lt_f, cond_false]
theorem uses_zero {e : End} : ∀ (xs : List End) (a : Int), (∀ x ∈ xs, x ≠ e) → xs.foldl (fun a x => bif decide (x = e) then w64 (a + 1) else a) a = a
  | [], _, _ => rfl
  | x :: xs, a, h => by
    rw [List.foldl_cons, decide_eq_false (h x (List.mem_cons_self ..)), cond_false]
    exact uses_zero xs a (fun y hy => h y (List.mem_cons_of_mem _ hy))
/-- The end of a piece. -/
def sideE (k : Nat) (b : Bool) : End := ⟨(k : Int), if b then 1 else 0⟩
theorem good_end {n : Net} (hg : goodNet n = true) {k : Nat} (hk : k < n.Pieces.length) (b : Bool) : sideE k b ∈ endsOf n := by
  have h5 := (good_facts hg).e k hk
  unfold bad5 at h5
  simp only [Bool.or_eq_false_iff, bne_eq_false_iff_eq] at h5
  have hu : usesOf n (sideE k b) = 1 := by cases b; exact h5.1; exact h5.2
  refine Classical.byContradiction fun hn => ?_
  have := uses_zero (e := sideE k b) (endsOf n) 0 (fun x hx e => hn (e ▸ hx))
  unfold usesOf at hu
  rw [this] at hu
  cases hu
/-- Every end is somewhere. -/
theorem at_good {n : Net} (hg : goodNet n = true) {k : Nat} (hk : k < n.Pieces.length) (b : Bool) : ∃ (j m : Nat) (c : Joint), atO n (sideE k b) = some ((j : Int), (m : Int)) ∧ n.Joints[j]? = some c ∧ c.Ends[m]? = some (sideE k b) := by
  obtain ⟨r, hr⟩ : ∃ r, atO n (sideE k b) = some r := firstO_is _ _ ⟨_, rfl⟩
  rcases firstO_mem hr with ⟨j, hj, h⟩ | ⟨h, _⟩
  · obtain ⟨c, hc⟩ : ∃ c, n.Joints[j]? = some c := ⟨_, List.getElem?_eq_getElem hj⟩
    unfold atIn at h
    rw [endsAt_some hc] at h
    rcases firstO_mem h with ⟨m, hm, h⟩ | ⟨_, h⟩
    · obtain ⟨h1, h2⟩ := bif_some h
      refine ⟨j, m, c, by rw [hr, ← h2], hc, ?_⟩
      rw [List.getElem?_eq_getElem hm] at h1 ⊢
      simp only [Option.any_some, decide_eq_true_eq] at h1
      rw [h1]
    · cases h
  · exfalso
    have hm := good_end hg hk b
    unfold endsOf at hm
    obtain ⟨c, hc, he⟩ := List.mem_flatMap.1 hm
    obtain ⟨j, hj, hcj⟩ := List.getElem_of_mem hc
    obtain ⟨m, hm, hem⟩ := List.getElem_of_mem he
    have hc2 : n.Joints[j]? = some c := by rw [List.getElem?_eq_getElem hj, hcj]
    have h1 := h j hj
    unfold atIn at h1
    rw [endsAt_some hc2] at h1
    have h2 := firstO_no h1 m hm
    have h3 := bif_none h2
    rw [List.getElem?_eq_getElem hm, hem] at h3
    simp at h3
/-! ### What is across a joint -/
theorem joint_ok {n : Net} (hg : goodNet n = true) {j : Nat} {c : Joint} (hc : n.Joints[j]? = some c) : (1 ≤ c.Kind ∧ c.Kind ≤ 4) ∧ (c.Ends.length : Int) = c.Kind ∧ ∀ e ∈ c.Ends, okE n e = true := by
  have h := (good_facts hg).j3 j (get_lt hc)
  rw [hc, Option.any_some] at h
  unfold bad3 at h
  simp only [Bool.or_eq_false_iff, decide_eq_false_iff_not, bne_eq_false_iff_eq, List.any_eq_false, Bool.not_eq_true', Bool.not_eq_false] at h
  exact ⟨by omega, h.1.2, h.2⟩
def endD (c : Joint) (i : Nat) : End := c.Ends.getD i ⟨0, 0⟩
def acrossL (c : Joint) (k : Nat) : List End :=
  if c.Kind = 2 then [endD c (1 - k)] else if c.Kind = 3 then (if k = 0 then [endD c 1, endD c 2] else [endD c 0]) else if c.Kind = 4 then [endD c ([1, 0, 3, 2].getD k 0)] else []
def howL (c : Joint) (k : Nat) : List Int :=
  if c.Kind = 2 then [0] else if c.Kind = 3 then (if k = 0 then [1, 2] else [(k : Int)]) else if c.Kind = 4 then [0] else []
/-- A joint of a right net, by its kind. -/
theorem joint_forms {c : Joint} (h : (1 ≤ c.Kind ∧ c.Kind ≤ 4) ∧ (c.Ends.length : Int) = c.Kind) : (∃ a b, c = ⟨1, a, [b]⟩) ∨ (∃ a b d, c = ⟨2, a, [b, d]⟩) ∨ (∃ a b d e, c = ⟨3, a, [b, d, e]⟩) ∨ ∃ a b d e f, c = ⟨4, a, [b, d, e, f]⟩ := by
  obtain ⟨K, N, E⟩ := c
  simp only [] at h
  match E, h with
  | [], ⟨h1, h2⟩ => simp only [List.length_nil] at h2; omega
  | [b], ⟨h1, h2⟩ => simp only [List.length_cons, List.length_nil] at h2; have : K = 1 := by omega
                     subst this; exact .inl ⟨N, b, rfl⟩
  | [b, d], ⟨h1, h2⟩ => simp only [List.length_cons, List.length_nil] at h2; have : K = 2 := by omega
                        subst this; exact .inr (.inl ⟨N, b, d, rfl⟩)
  | [b, d, e], ⟨h1, h2⟩ => simp only [List.length_cons, List.length_nil] at h2; have : K = 3 := by omega
                           subst this; exact .inr (.inr (.inl ⟨N, b, d, e, rfl⟩))
  | [b, d, e, f], ⟨h1, h2⟩ => simp only [List.length_cons, List.length_nil] at h2; have : K = 4 := by omega
                              subst this; exact .inr (.inr (.inr ⟨N, b, d, e, f, rfl⟩))
  | b :: d :: e :: f :: g :: r, ⟨h1, h2⟩ => simp only [List.length_cons] at h2; omega
theorem across_eq {c : Joint} (h : (1 ≤ c.Kind ∧ c.Kind ≤ 4) ∧ (c.Ends.length : Int) = c.Kind) {k : Nat} (hk : k < c.Ends.length) : f307 c (k : Int) = some (acrossL c k) := by
  rcases joint_forms h with ⟨a, b, rfl⟩ | ⟨a, b, d, rfl⟩ | ⟨a, b, d, e, rfl⟩ | ⟨a, b, d, e, f, rfl⟩
  · rfl
  · match k, hk with
    | 0, _ => rfl
    | 1, _ => rfl
  · match k, hk with
    | 0, _ => rfl
    | 1, _ => rfl
    | 2, _ => rfl
  · match k, hk with
    | 0, _ => rfl
    | 1, _ => rfl
    | 2, _ => rfl
    | 3, _ => rfl
theorem over_eq {n : Net} (hs : smNet n) (hg : goodNet n = true) {e : End} {j k : Nat} {c : Joint} (ha : atO n e = some ((j : Int), (k : Int))) (hc : n.Joints[j]? = some c) (hk : k < c.Ends.length) : f290 n e = some (acrossL c k, howL c k) := by
  have h := joint_ok hg hc
  unfold f290
  rw [impl_at hs, ha]
  have hj : decide (((j : Nat) : Int) < (0:Int)) = false := by rw [decide_eq_false_iff_not]; omega
  simp only [Option.bind_some, hj, cond_false, getI_nat, hc]
  rcases joint_forms ⟨h.1, h.2.1⟩ with ⟨a, b, rfl⟩ | ⟨a, b, d, rfl⟩ | ⟨a, b, d, e, rfl⟩ | ⟨a, b, d, e, f, rfl⟩
  · rfl
  · match k, hk with
    | 0, _ => rfl
    | 1, _ => rfl
  · match k, hk with
    | 0, _ => rfl
    | 1, _ => rfl
    | 2, _ => rfl
  · match k, hk with
    | 0, _ => rfl
    | 1, _ => rfl
    | 2, _ => rfl
    | 3, _ => rfl
theorem across_len (c : Joint) (k : Nat) : (acrossL c k).length ≤ 2 := by
  unfold acrossL
  split
  · simp
  · split
    · split <;> simp
    · split <;> simp
/-- What lies behind an end, and how switches must lie for it. -/
def overL (n : Net) (e : End) : List End := match atO n e with | some (j, k) => (match n.Joints[j.toNat]? with | some c => acrossL c k.toNat | none => []) | none => []
def overH (n : Net) (e : End) : List Int := match atO n e with | some (j, k) => (match n.Joints[j.toNat]? with | some c => howL c k.toNat | none => []) | none => []
theorem overL_is {n : Net} {e : End} {j k : Nat} {c : Joint} (ha : atO n e = some ((j : Int), (k : Int))) (hc : n.Joints[j]? = some c) : overL n e = acrossL c k ∧ overH n e = howL c k := by
  unfold overL overH
  rw [ha]
  simp only [Int.toNat_natCast, hc, and_self]
theorem overL_len (n : Net) (e : End) : (overL n e).length ≤ 2 := by
  unfold overL
  split
  · split
    · exact across_len _ _
    · simp
  · simp
def lookE (p w : Int) : End := bif w == 1 then ⟨p, 1⟩ else ⟨p, 0⟩
theorem head_eq (p w : Int) : f224 p w = some (lookE p w) := by
  unfold f224 lookE
  cases w == 1 <;> rfl
theorem looked_eq (p w : Int) : f337 p w = some (lookE p w) := by
  unfold f337 lookE
  cases w == 1 <;> rfl
theorem look_side (k : Nat) (w : Int) : lookE (k : Int) w = sideE k (w == 1) := by
  unfold lookE sideE
  cases w == 1 <;> rfl
theorem at_look {n : Net} (hg : goodNet n = true) {k : Nat} (hk : k < n.Pieces.length) (w : Int) : ∃ (j m : Nat) (c : Joint), atO n (lookE (k : Int) w) = some ((j : Int), (m : Int)) ∧ n.Joints[j]? = some c ∧ c.Ends[m]? = some (lookE (k : Int) w) := by
  rw [look_side]; exact at_good hg hk _
theorem over_good {n : Net} (hs : smNet n) (hg : goodNet n = true) {k : Nat} (hk : k < n.Pieces.length) (w : Int) : f290 n (lookE (k : Int) w) = some (overL n (lookE (k : Int) w), overH n (lookE (k : Int) w)) := by
  obtain ⟨j, m, c, ha, hc, hm⟩ := at_look hg hk w
  rw [over_eq hs hg ha hc (get_lt hm), (overL_is ha hc).1, (overL_is ha hc).2]
theorem joined_eq {n : Net} (hs : smNet n) (hg : goodNet n = true) {a b : Step} {k : Nat} (hak : a.Piece = (k : Int)) (hk : k < n.Pieces.length) : f285 n a b = some ((overL n (lookE a.Piece a.Way)).any fun y => decide (y = lookE b.Piece (w64 (0 - b.Way)))) := by
  obtain ⟨j, m, c, ha, hc, hm⟩ := at_look hg hk a.Way
  have ho := joint_ok hg hc
  have hl := across_len c m
  unfold f285
  rw [hak]
  simp only [head_eq, spec_at hs, ha, Option.bind_some, getI_nat, hc, across_eq ⟨ho.1, ho.2.1⟩ (get_lt hm)]
  rw [(overL_is ha hc).1]
  refine loop_any (acrossL c m) _ (fun i y hy => ?_) ?_
  · have hi := get_lt hy
    unfold f285_L1
    simp only [lt_t hi, cond_true, getI_nat, hy, Option.bind_some, end_is, w64_nat (show i < 9223372036854775807 by omega)]
    cases decide (y = lookE b.Piece (w64 (0 - b.Way))) <;> rfl
  · unfold f285_L1
    simp only [lt_f, cond_false, Option.map_some]
theorem containsE {xs : List End} (hl : xs.length ≤ 1048576) (v : End) : f292 xs v = some (xs.any fun y => decide (y = v)) := by
  unfold f292 f338
  have h1 : loopO (f338_L1 xs v) (0 : Int) = firstO xs.length (fun i => bif (xs[i]?).any (fun y => decide (y = v)) then some (i : Int) else none) (some (-1)) := by
    refine loop_find xs.length (fun i => (i : Int)) _ _ (fun i hi _ => ?_) (fun _ => ?_)
    · unfold f338_L1
      simp only [lt_t hi, cond_true, getI_nat, List.getElem?_eq_getElem hi, Option.bind_some, end_si, Option.any_some, w64_nat (show i < 9223372036854775807 by omega)]
      cases decide (xs[i] = v) <;> rfl
    · unfold f338_L1
      simp only [lt_f, cond_false]
  rw [h1]
  obtain ⟨r, hr⟩ := firstO_is xs.length (fun i => bif (xs[i]?).any (fun y => decide (y = v)) then some (i : Int) else none) (e := some (-1)) ⟨_, rfl⟩
  rw [hr, Option.bind_some]
  have ht := range_any_take xs (fun y => decide (y = v)) xs.length
  rw [List.take_length] at ht
  rw [← ht]
  rcases firstO_mem hr with ⟨i, hi, h⟩ | ⟨h, h2⟩
  · obtain ⟨h3, rfl⟩ := bif_some h
    congr 1
    rw [Bool.eq_iff_iff, decide_eq_true_eq, List.any_eq_true]
    exact ⟨fun _ => ⟨i, List.mem_range.2 hi, h3⟩, fun _ => by omega⟩
  · have : r = -1 := by simpa using h2.symm
    subst this
    congr 1
    rw [Bool.eq_iff_iff, decide_eq_true_eq, List.any_eq_true]
    constructor
    · intro h; omega
    · rintro ⟨i, hi, h3⟩
      have := bif_none (h i (List.mem_range.1 hi))
      rw [h3] at this; cases this
/-! ### Trains -/
def wayB (w : Int) : Bool := (w == (1:Int)) || (w == (-1:Int))
def spotB (n : Net) (s : Spot) : Bool := ((decide (s.Piece ≥ (0:Int)) && decide (s.Piece < (n.Pieces.length : Int))) && wayB s.Way) && (n.Pieces[s.Piece.toNat]?).any fun p => decide (s.At ≥ (0:Int)) && decide (s.At ≤ p.Len)
theorem spec_spot {n : Net} (hg : goodNet n = true) (s : Spot) : f220 n s = some (spotB n s) := by
  have hn := (good_facts hg).le
  unfold f220 spotB
  simp only [in22_eq, Option.bind_some, cond_some, le_pred (y := s.Piece) (n := (n.Pieces.length : Int)) (by omega)]
  rw [show ((s.Way == (1:Int)) || (s.Way == (-1:Int))) = wayB s.Way from rfl]
  rcases piece_cases hg s.Piece with h | ⟨k, p, hk, hp, h1, h2, h⟩
  · rw [h]; rfl
  · rw [h, hk]
    simp only [getI_nat, hp, Option.bind_some, Int.toNat_natCast, Option.any_some]
    cases wayB s.Way <;> rfl
theorem impl_spot {n : Net} (hg : goodNet n = true) (s : Spot) : f226 n s = some (spotB n s) := by
  have hn := (good_facts hg).le
  unfold f226 spotB
  simp only [within_eq, Option.bind_some, cond_some, le_pred (y := s.Piece) (n := (n.Pieces.length : Int)) (by omega)]
  rcases piece_cases hg s.Piece with h | ⟨k, p, hk, hp, h1, h2, h⟩
  · rw [h]; rfl
  · rw [h, hk]
    simp only [getI_nat, hp, Option.bind_some, Int.toNat_natCast, Option.any_some, cond_true]
    rw [show ((s.Way == (1:Int)) || (s.Way == (-1:Int))) = wayB s.Way from rfl]
    cases wayB s.Way <;> simp
theorem wayB_or {w : Int} (h : wayB w = true) : w = 1 ∨ w = -1 := by
  unfold wayB at h
  simpa using h
theorem spot_facts {n : Net} (hg : goodNet n = true) {s : Spot} (h : spotB n s = true) : ∃ (k : Nat) (p : Piece), s.Piece = (k : Int) ∧ n.Pieces[k]? = some p ∧ 1 ≤ p.Len ∧ p.Len ≤ 10000000 ∧ (s.Way = 1 ∨ s.Way = -1) ∧ 0 ≤ s.At ∧ s.At ≤ p.Len := by
  unfold spotB at h
  simp only [Bool.and_eq_true] at h
  rcases piece_cases hg s.Piece with h1 | ⟨k, p, hk, hp, h1, h2, h3⟩
  · rw [Bool.and_eq_false_iff] at h1
    rcases h1 with h1 | h1
    · rw [h1] at h; exact absurd h.1.1.1 (by decide)
    · rw [h1] at h; exact absurd h.1.1.2 (by decide)
  · obtain ⟨h4, h5⟩ := h
    rw [hk, Int.toNat_natCast, hp] at h5
    simp only [Option.any_some, Bool.and_eq_true, decide_eq_true_eq] at h5
    exact ⟨k, p, hk, hp, h1, h2, wayB_or h4.2, h5.1, h5.2⟩
/-- What is behind a spot on its piece. -/
def goneF (p : Piece) (s : Spot) : Int := if s.Way = 1 then s.At else p.Len - s.At
theorem gone_eq {n : Net} {s : Spot} {k : Nat} {p : Piece} (hk : s.Piece = (k : Int)) (hp : n.Pieces[k]? = some p) (h1 : 1 ≤ p.Len) (h2 : p.Len ≤ 10000000) (h3 : 0 ≤ s.At) (h4 : s.At ≤ p.Len) : f289 n s = some (goneF p s) := by
  unfold f289 goneF
  rw [hk]
  simp only [getI_nat, hp, Option.bind_some]
  by_cases hw : s.Way = 1
  · rw [hw]; rfl
  · rw [if_neg hw, beq_eq_false_iff_ne.2 hw, cond_false, w64_id (by omega)]
theorem behind_eq {n : Net} {s : Spot} {k : Nat} {p : Piece} (hk : s.Piece = (k : Int)) (hp : n.Pieces[k]? = some p) (h1 : 1 ≤ p.Len) (h2 : p.Len ≤ 10000000) (h3 : 0 ≤ s.At) (h4 : s.At ≤ p.Len) : f222 n s = some (goneF p s) := by
  unfold f222 f305 goneF
  rw [hk]
  simp only [getI_nat, hp, Option.bind_some]
  by_cases hw : s.Way = 1
  · rw [hw]
    show some (w64 (p.Len - w64 (p.Len - s.At))) = _
    rw [w64_id (x := p.Len - s.At) (by omega), w64_id (by omega), if_pos rfl]
    congr 1; omega
  · rw [if_neg hw, beq_eq_false_iff_ne.2 hw, cond_false, Option.bind_some, w64_id (by omega)]
def okLie (n : Net) (i : Nat) (x : Int) : Bool := (decide (x ≥ (0:Int)) && decide (x ≤ (2:Int))) && (decide (x = 0) || (n.Joints[i]?).any fun c => c.Kind == (3:Int))
def liesB (n : Net) (l : List Int) : Bool := (l.length == n.Joints.length) && (List.range l.length).all fun i => (l[i]?).any (okLie n i)
theorem spec_lies {n : Net} {l : List Int} (hl : l.length ≤ 1048576) : f302 n l = some (liesB n l) := by
  unfold f302 liesB
  cases hb : (l.length == n.Joints.length) with
  | false =>
    simp only [beq_eq_false_iff_ne] at hb
    have : ((l.length : Int) != (n.Joints.length : Int)) = true := by rw [bne_iff_ne]; omega
    rw [this]; rfl
  | true =>
    simp only [beq_iff_eq] at hb
    have : ((l.length : Int) != (n.Joints.length : Int)) = false := by rw [bne_eq_false_iff_eq]; omega
    rw [this, cond_false, Bool.true_and]
    refine (loop_find l.length (fun i => (i : Int)) (fun i => bif (l[i]?).any (okLie n i) then none else some false) (some true) (fun i hi _ => ?_) (fun _ => ?_)).trans ((firstO_all _ _ _).trans (by rw [Bool.and_true]))
    · have hj : i < n.Joints.length := by omega
      unfold f302_L1 okLie
      simp only [lt_t hi, cond_true, getI_nat, List.getElem?_eq_getElem hi, List.getElem?_eq_getElem hj, Option.bind_some, in22_eq, cond_some, Option.any_some, w64_nat (show i < 9223372036854775807 by omega)]
      cases h : (decide (l[i] ≥ (0:Int)) && decide (l[i] ≤ (2:Int))) with
      | false => rfl
      | true =>
        by_cases h0 : l[i] = 0
        · rw [h0]; rfl
        · rw [bne_iff_ne.2 h0, decide_eq_false h0]
          cases hk : (n.Joints[i].Kind == (3:Int))
          · rw [show (n.Joints[i].Kind != (3:Int)) = true from by rw [bne, hk]; rfl]; rfl
          · rw [show (n.Joints[i].Kind != (3:Int)) = false from by rw [bne, hk]; rfl]; rfl
    · unfold f302_L1
      simp only [lt_f, cond_false]
theorem impl_lies {n : Net} {l : List Int} (hl : l.length ≤ 1048576) : f303 n l = some (liesB n l) := by
  unfold f303 liesB
  cases hb : (l.length == n.Joints.length) with
  | false =>
    simp only [beq_eq_false_iff_ne] at hb
    have : ((l.length : Int) != (n.Joints.length : Int)) = true := by rw [bne_iff_ne]; omega
    rw [this]; rfl
  | true =>
    simp only [beq_iff_eq] at hb
    have : ((l.length : Int) != (n.Joints.length : Int)) = false := by rw [bne_eq_false_iff_eq]; omega
    rw [this, cond_false, Bool.true_and]
    refine (loop_find l.length (fun i => (i : Int)) (fun i => bif (l[i]?).any (okLie n i) then none else some false) (some true) (fun i hi _ => ?_) (fun _ => ?_)).trans ((firstO_all _ _ _).trans (by rw [Bool.and_true]))
    · have hj : i < n.Joints.length := by omega
      unfold f303_L1 okLie
      simp only [lt_t hi, cond_true, getI_nat, List.getElem?_eq_getElem hi, List.getElem?_eq_getElem hj, Option.bind_some, within_eq, cond_some, Option.any_some, w64_nat (show i < 9223372036854775807 by omega)]
      cases h : (decide (l[i] ≥ (0:Int)) && decide (l[i] ≤ (2:Int))) with
      | false => rfl
      | true =>
        simp only [Bool.and_eq_true, decide_eq_true_eq] at h
        by_cases h0 : l[i] = 0
        · rw [h0]; rfl
        · rw [show decide (l[i] > (0:Int)) = true from by rw [decide_eq_true_eq]; omega, decide_eq_false h0]
          cases hk : (n.Joints[i].Kind == (3:Int))
          · rw [show (n.Joints[i].Kind != (3:Int)) = true from by rw [bne, hk]; rfl]; rfl
          · rw [show (n.Joints[i].Kind != (3:Int)) = false from by rw [bne, hk]; rfl]; rfl
    · unfold f303_L1
      simp only [lt_f, cond_false]
theorem lies_facts {n : Net} {l : List Int} (h : liesB n l = true) : l.length = n.Joints.length ∧ ∀ (i : Nat) (x : Int), l[i]? = some x → 0 ≤ x ∧ x ≤ 2 := by
  unfold liesB at h
  simp only [Bool.and_eq_true, beq_iff_eq, List.all_eq_true, List.mem_range] at h
  refine ⟨h.1, fun i x hx => ?_⟩
  have := h.2 i (get_lt hx)
  rw [hx] at this
  unfold okLie at this
  simp only [Option.any_some, Bool.and_eq_true, decide_eq_true_eq] at this
  exact this.1
theorem spec_LiesOk {n : Net} {l : List Int} (hx : fitNet n) (hs : smNet n) (hl : l.length ≤ 1048576) : f216 n l = some (goodNet n && liesB n l) := by
  unfold f216
  rw [l22ok_eq hx hs, spec_lies hl]
  cases goodNet n <;> rfl
theorem impl_LiesOk {n : Net} {l : List Int} (hx : fitNet n) (hs : smNet n) (hl : l.length ≤ 1048576) : f218 n l = some (goodNet n && liesB n l) := by
  unfold f218
  rw [good_eq hx hs, impl_lies hl]
  cases goodNet n <;> rfl
/-- Over a joint, as switches lie: both say the same, but for the end where there is none. -/
theorem cross_same {n : Net} {l : List Int} (hs : smNet n) (hg : goodNet n = true) (hl : liesB n l = true) {k : Nat} (hk : k < n.Pieces.length) (w : Int) : ∃ r q, f223 n l (lookE (k : Int) w) = some r ∧ f304 n l (lookE (k : Int) w) = some q ∧ r.2.1 = q.2.1 ∧ r.2.2 = q.2.2 ∧ (r.2.1 = 0 → r.1 = q.1) := by
  obtain ⟨j, m, c, ha, hc, hm⟩ := at_look hg hk w
  have ho := joint_ok hg hc
  have hlf := lies_facts hl
  have hjl : j < l.length := by rw [hlf.1]; exact get_lt hc
  obtain ⟨x, hx⟩ : ∃ x, l[j]? = some x := ⟨_, List.getElem?_eq_getElem hjl⟩
  have hxr := hlf.2 j x hx
  have hover := over_good hs hg hk w
  rw [(overL_is ha hc).1, (overL_is ha hc).2] at hover
  have hac := across_eq ⟨ho.1, ho.2.1⟩ (get_lt hm)
  have hml := get_lt hm
  generalize lookE (k : Int) w = e at *
  unfold f223 f223_k1 f304 f304_k1
  rw [spec_at hs, impl_at hs, ha, hover]
  simp only [Option.bind_some, getI_nat, hc, hx, hac]
  rcases joint_forms ⟨ho.1, ho.2.1⟩ with ⟨a, b, rfl⟩ | ⟨a, b, d, rfl⟩ | ⟨a, b, d, f, rfl⟩ | ⟨a, b, d, f, g, rfl⟩
  · exact ⟨_, _, rfl, rfl, rfl, rfl, fun h => by cases h⟩
  · have h2 : m < 2 := hml
    obtain rfl | rfl : m = 0 ∨ m = 1 := by omega
    · exact ⟨_, _, rfl, rfl, rfl, rfl, fun _ => rfl⟩
    · exact ⟨_, _, rfl, rfl, rfl, rfl, fun _ => rfl⟩
  · have h3 : x = 0 ∨ x = 1 ∨ x = 2 := by omega
    have h2 : m < 3 := hml
    obtain rfl | rfl | rfl : m = 0 ∨ m = 1 ∨ m = 2 := by omega
    · rcases h3 with rfl | rfl | rfl
      · exact ⟨_, _, rfl, rfl, rfl, rfl, fun h => by cases h⟩
      · exact ⟨_, _, rfl, rfl, rfl, rfl, fun _ => rfl⟩
      · exact ⟨_, _, rfl, rfl, rfl, rfl, fun _ => rfl⟩
    · rcases h3 with rfl | rfl | rfl
      · exact ⟨_, _, rfl, rfl, rfl, rfl, fun h => by cases h⟩
      · exact ⟨_, _, rfl, rfl, rfl, rfl, fun _ => rfl⟩
      · exact ⟨_, _, rfl, rfl, rfl, rfl, fun h => by cases h⟩
    · rcases h3 with rfl | rfl | rfl
      · exact ⟨_, _, rfl, rfl, rfl, rfl, fun h => by cases h⟩
      · exact ⟨_, _, rfl, rfl, rfl, rfl, fun h => by cases h⟩
      · exact ⟨_, _, rfl, rfl, rfl, rfl, fun _ => rfl⟩
  · have h2 : m < 4 := hml
    obtain rfl | rfl | rfl | rfl : m = 0 ∨ m = 1 ∨ m = 2 ∨ m = 3 := by omega
    · exact ⟨_, _, rfl, rfl, rfl, rfl, fun _ => rfl⟩
    · exact ⟨_, _, rfl, rfl, rfl, rfl, fun _ => rfl⟩
    · exact ⟨_, _, rfl, rfl, rfl, rfl, fun _ => rfl⟩
    · exact ⟨_, _, rfl, rfl, rfl, rfl, fun _ => rfl⟩
theorem catB_ok {a b : ByteArray} (h : a.size + b.size ≤ 1099511627776) : catB a b = some (a ++ b) := if_pos h
theorem text_some : ∀ (n : Nat) (k : Int) (s : ByteArray), 0 ≤ k → k ≤ 4611686018427387904 → k < ((10 ^ n : Nat) : Int) → s.size + n ≤ 1000 → ∃ r, loopO f309_L1 (k, s) = some r
  | 0, k, s, h0, hb, h1, h2 => by
    have : k = 0 := by simp at h1; omega
    subst this
    rw [loopO_eq]
    unfold f309_L1
    simp only [show decide ((0:Int) > 0) = false from rfl, cond_false]
    rw [catB_ok (by show 1 + s.size ≤ _; omega)]
    exact ⟨_, rfl⟩
  | n + 1, k, s, h0, hb, h1, h2 => by
    rw [loopO_eq]
    unfold f309_L1
    by_cases hk : k > 0
    · simp only [show decide (k > 0) = true by rw [decide_eq_true_eq]; exact hk, cond_true]
      rw [Nat.pow_succ] at h1
      have e1 : (bytesU [⟨IntKind.wrap .u8 (w64 (48 + k.tmod 10))⟩]).size = 1 := rfl
      rw [catB_ok (by rw [e1]; omega)]
      simp only [Option.bind_some]
      have e2 : Int.tdiv k 10 = k / 10 := Int.tdiv_eq_ediv_of_nonneg h0
      rw [e2, w64_id ⟨by omega, by omega⟩]
      exact text_some n (k / 10) _ (by omega) (by omega) (by omega) (by rw [ByteArray.size_append, e1]; omega)
    · simp only [show decide (k > 0) = false by rw [decide_eq_false_iff_not]; exact hk, cond_false]
      rw [catB_ok (by show 1 + s.size ≤ _; omega)]
      exact ⟨_, rfl⟩
def mtext (k : Int) : ByteArray := (f309 k).getD ByteArray.empty
theorem mt_eq {k : Int} (h0 : 0 ≤ k) (hb : k ≤ 4611686018427387904) : f309 k = some (mtext k) := by
  have : ∃ r, f309 k = some r := by
    unfold f309
    cases decide (k ≤ 0) with
    | true => exact ⟨_, rfl⟩
    | false =>
      simp only [cond_false]
      exact text_some 19 k _ h0 hb (by omega) (by decide)
  obtain ⟨r, hr⟩ := this
  unfold mtext
  rw [hr]; rfl
def mkS : ByteArray → Int → ByteArray := fun _ k => mtext k
theorem loop_twinP {σ ρ : Type} {F F' : σ → Option (σ ⊕ ρ)} (φ : ρ → Prop) (n : Nat) (Inv : Nat → σ → Prop) (s0 : σ) (h0 : Inv 0 s0) (h : ∀ i s, i < n → Inv i s → F s = F' s ∧ ((∃ s', F' s = some (.inl s') ∧ Inv (i + 1) s') ∨ ∃ r, F' s = some (.inr r) ∧ φ r)) (hend : ∀ s, Inv n s → F s = F' s ∧ ∃ r, F' s = some (.inr r) ∧ φ r) : ∃ r, loopO F s0 = some r ∧ loopO F' s0 = some r ∧ φ r := by
  have key : ∀ k i s, i + k = n → Inv i s → ∃ r, loopO F s = some r ∧ loopO F' s = some r ∧ φ r := by
    intro k
    induction k with
    | zero =>
      intro i s hi hs
      have : i = n := by omega
      subst this
      obtain ⟨h1, r, h2, h3⟩ := hend s hs
      exact ⟨r, by rw [loopO_eq, h1, h2]; rfl, by rw [loopO_eq, h2]; rfl, h3⟩
    | succ k ih =>
      intro i s hi hs
      obtain ⟨h1, h2⟩ := h i s (by omega) hs
      rcases h2 with ⟨s', h2, h3⟩ | ⟨r, h2, h3⟩
      · obtain ⟨r, h4, h5, h6⟩ := ih (i + 1) s' (by omega) h3
        exact ⟨r, by rw [loopO_eq, h1, h2]; exact h4, by rw [loopO_eq, h2]; exact h5, h6⟩
      · exact ⟨r, by rw [loopO_eq, h1, h2]; rfl, by rw [loopO_eq, h2]; rfl, h3⟩
  exact key n 0 s0 (by omega) h0
/-- Over a joint one comes to an end of a piece of the net. -/
theorem cross_ok {n : Net} {l : List Int} (hs : smNet n) (hg : goodNet n = true) (hl : liesB n l = true) {k : Nat} (hk : k < n.Pieces.length) (w : Int) {r : End × Int × Int} (hr : f223 n l (lookE (k : Int) w) = some r) (h0 : r.2.1 = 0) : okE n r.1 = true := by
  obtain ⟨j, m, c, ha, hc, hm⟩ := at_look hg hk w
  have ho := joint_ok hg hc
  have hlf := lies_facts hl
  have hjl : j < l.length := by rw [hlf.1]; exact get_lt hc
  obtain ⟨x, hx⟩ : ∃ x, l[j]? = some x := ⟨_, List.getElem?_eq_getElem hjl⟩
  have hxr := hlf.2 j x hx
  have hac := across_eq ⟨ho.1, ho.2.1⟩ (get_lt hm)
  have hml := get_lt hm
  have hin : ∃ r', f223 n l (lookE (k : Int) w) = some r' ∧ (r'.2.1 = 0 → r'.1 ∈ c.Ends) := by
    generalize lookE (k : Int) w = e at *
    unfold f223 f223_k1
    rw [spec_at hs, ha]
    simp only [Option.bind_some, getI_nat, hc, hx, hac]
    rcases joint_forms ⟨ho.1, ho.2.1⟩ with ⟨a, b, rfl⟩ | ⟨a, b, d, rfl⟩ | ⟨a, b, d, f, rfl⟩ | ⟨a, b, d, f, g, rfl⟩
    · exact ⟨_, rfl, fun h => by cases h⟩
    · have h2 : m < 2 := hml
      obtain rfl | rfl : m = 0 ∨ m = 1 := by omega
      · exact ⟨_, rfl, fun _ => .tail _ (.head _)⟩
      · exact ⟨_, rfl, fun _ => .head _⟩
    · have h3 : x = 0 ∨ x = 1 ∨ x = 2 := by omega
      have h2 : m < 3 := hml
      obtain rfl | rfl | rfl : m = 0 ∨ m = 1 ∨ m = 2 := by omega
      · rcases h3 with rfl | rfl | rfl
        · exact ⟨_, rfl, fun h => by cases h⟩
        · exact ⟨_, rfl, fun _ => .tail _ (.head _)⟩
        · exact ⟨_, rfl, fun _ => .tail _ (.tail _ (.head _))⟩
      · rcases h3 with rfl | rfl | rfl
        · exact ⟨_, rfl, fun h => by cases h⟩
        · exact ⟨_, rfl, fun _ => .head _⟩
        · exact ⟨_, rfl, fun h => by cases h⟩
      · rcases h3 with rfl | rfl | rfl
        · exact ⟨_, rfl, fun h => by cases h⟩
        · exact ⟨_, rfl, fun h => by cases h⟩
        · exact ⟨_, rfl, fun _ => .head _⟩
    · have h2 : m < 4 := hml
      obtain rfl | rfl | rfl | rfl : m = 0 ∨ m = 1 ∨ m = 2 ∨ m = 3 := by omega
      · exact ⟨_, rfl, fun _ => .tail _ (.head _)⟩
      · exact ⟨_, rfl, fun _ => .head _⟩
      · exact ⟨_, rfl, fun _ => .tail _ (.tail _ (.tail _ (.head _)))⟩
      · exact ⟨_, rfl, fun _ => .tail _ (.tail _ (.head _))⟩
  obtain ⟨r', e1, e2⟩ := hin
  rw [hr] at e1
  cases e1
  exact ho.2.2 _ (e2 h0)
theorem goneF_in {p : Piece} {s : Spot} (h1 : 0 ≤ s.At) (h2 : s.At ≤ p.Len) : 0 ≤ goneF p s ∧ goneF p s ≤ p.Len := by
  unfold goneF
  split <;> omega
theorem place_same {n : Net} {l : List Int} {s : Spot} {long : Int} {p : Piece} {k : Nat} (hs : smNet n) (hg : goodNet n = true) (hl : liesB n l = true) (hk : s.Piece = (k : Int)) (hp : n.Pieces[k]? = some p) (h1 : 1 ≤ p.Len) (h2 : p.Len ≤ 10000000) (h3 : 0 ≤ s.At) (h4 : s.At ≤ p.Len) (hl2 : long ≤ 100000) :
    ∃ r, loopO (f99_L1 n l s long) (s.Piece, s.Way, ([] : List Step), goneF p s) = some r ∧ loopO (f227_L1 n l s long) (s.Piece, s.Way, ([] : List Step), goneF p s) = some r ∧ r.Train.Back.length ≤ 1048576 := by
  have hgo := goneF_in h3 h4
  refine loop_twinP (fun r : Placed => r.Train.Back.length ≤ 1048576) 200 (fun i st => (∃ k : Nat, st.1 = (k : Int) ∧ k < n.Pieces.length) ∧ st.2.2.1.length = i ∧ 0 ≤ st.2.2.2 ∧ st.2.2.2 ≤ 10100000) _ ⟨⟨k, hk, get_lt hp⟩, rfl, hgo.1, by show goneF p s ≤ _; omega⟩ (fun i st hi hst => ?_) (fun st hst => ?_)
  · obtain ⟨a, b, back, sum⟩ := st
    obtain ⟨⟨k, hk, hkl⟩, hbl, hs0, hs1⟩ := hst
    simp only [] at hk hbl hs0 hs1
    subst hk
    unfold f99_L1 f227_L1
    cases hd : decide (sum < long) with
    | false => exact ⟨rfl, .inr ⟨_, rfl, by show back.length ≤ _; omega⟩⟩
    | true =>
      simp only [decide_eq_true_eq] at hd
      obtain ⟨r, q, e1, e2, e3, e4, e5⟩ := cross_same hs hg hl hkl (w64 (0 - b))
      unfold f293
      simp only [cond_true, head_eq, looked_eq, Option.bind_some, e1, e2]
      rw [← e3]
      by_cases h0 : r.2.1 = 0
      · have hok := cross_ok hs hg hl hkl _ e1 h0
        rw [h0, ← e5 h0]
        unfold okE at hok
        simp only [Bool.and_eq_true, decide_eq_true_eq] at hok
        have e200 : ((back.length : Int) == 200) = false := by rw [beq_eq_false_iff_ne]; omega
        obtain ⟨k2, hk2⟩ : ∃ k2 : Nat, r.1.Piece = (k2 : Int) := ⟨r.1.Piece.toNat, by omega⟩
        obtain ⟨p2, hp2⟩ : ∃ p2, n.Pieces[k2]? = some p2 := ⟨_, List.getElem?_eq_getElem (by omega)⟩
        have hpl := good_piece hg hp2
        unfold okP at hpl
        unfold f225 f308 f294
        simp only [Bool.and_eq_true, decide_eq_true_eq] at hpl
        have hv : w64 (sum + p2.Len) = sum + p2.Len := w64_id ⟨by omega, by omega⟩
        rcases (show r.1.Side = 0 ∨ r.1.Side = 1 by omega) with hside | hside
        · simp only [hside, e200, bne_self_eq_false, Bool.or_self, cond_false, beq_self_eq_true, cond_true, Option.bind_some, show ((0:Int) == 1) = false from rfl]
          rw [appB_ok (by simp only [List.length_singleton]; omega), appB_ok (by simp only [List.length_singleton]; omega)]
          simp only [Option.bind_some, hk2, getI_nat, hp2, hv, show w64 (0 - (1:Int)) = -1 from rfl]
          exact ⟨trivial, .inl ⟨_, rfl, ⟨k2, rfl, get_lt hp2⟩, by simp; omega, by show 0 ≤ sum + p2.Len; omega, by show sum + p2.Len ≤ _; omega⟩⟩
        · simp only [hside, e200, bne_self_eq_false, Bool.or_self, cond_false, beq_self_eq_true, cond_true, Option.bind_some, show ((1:Int) == 0) = false from rfl, hk2, getI_nat, hp2]
          rw [appB_ok (by simp only [List.length_singleton]; omega), appB_ok (by simp only [List.length_singleton]; omega)]
          simp only [Option.bind_some, hk2, getI_nat, hp2, hv, show w64 (0 - (-1:Int)) = 1 from rfl]
          exact ⟨trivial, .inl ⟨_, rfl, ⟨k2, rfl, get_lt hp2⟩, by simp; omega, by show 0 ≤ sum + p2.Len; omega, by show sum + p2.Len ≤ _; omega⟩⟩
      · rw [bne_iff_ne.2 h0]
        exact ⟨rfl, .inr ⟨_, rfl, by simp⟩⟩
  · obtain ⟨a, b, back, sum⟩ := st
    obtain ⟨⟨k, hk, hkl⟩, hbl, hs0, hs1⟩ := hst
    simp only [] at hk hbl hs0 hs1
    subst hk
    unfold f99_L1 f227_L1
    cases hd : decide (sum < long) with
    | false => exact ⟨rfl, _, rfl, by show back.length ≤ _; omega⟩
    | true =>
      obtain ⟨r, q, e1, e2, e3, e4, e5⟩ := cross_same hs hg hl hkl (w64 (0 - b))
      unfold f293
      have e200 : ((back.length : Int) == 200) = true := by rw [beq_iff_eq]; omega
      simp only [cond_true, head_eq, looked_eq, Option.bind_some, e1, e2, e200, Bool.or_true]
      exact ⟨trivial, _, rfl, by simp⟩
theorem main17 {n : Net} {l : List Int} {s : Spot} {long : Int} (hx : fitNet n) (hl : fitsL fitsI l) (hsf : fitSpot s) (hlong : fitsI long) (hs : smNet n) (hls : smL (fun _ => True) l) : ∃ r, f99 n l s long = some r ∧ f101 n l s long = some r ∧ smPlaced r := by
  have nil : ∃ r : Placed, some (⟨false, ⟨⟨0, 0, 0⟩, 0, []⟩⟩ : Placed) = some r ∧ some (⟨false, ⟨⟨0, 0, 0⟩, 0, []⟩⟩ : Placed) = some r ∧ smPlaced r := ⟨_, rfl, rfl, by simp, fun _ _ => trivial⟩
  unfold f99 f101
  rw [spec_LiesOk hx hs hls.1, impl_LiesOk hx hs hls.1]
  cases hg : goodNet n with
  | false => exact nil
  | true =>
    cases hll : liesB n l with
    | false => exact nil
    | true =>
      simp only [Bool.and_self, Option.bind_some, Bool.not_true, cond_false, spec_spot hg, impl_spot hg, in22_eq, show ∀ x a b, f171 x a b = some (decide (x ≥ a) && decide (x ≤ b)) from fun _ _ _ => rfl]
      cases hsp : spotB n s with
      | false => exact nil
      | true =>
        cases hlo : (decide (long ≥ 1) && decide (long ≤ 100000)) with
        | false => exact nil
        | true =>
          simp only [Bool.and_eq_true, decide_eq_true_eq] at hlo
          obtain ⟨k, p, hk, hp, h1, h2, _, h3, h4⟩ := spot_facts hg hsp
          simp only [Option.bind_some, Bool.not_true, cond_false, behind_eq hk hp h1 h2 h3 h4]
          obtain ⟨r, e1, e2, e3⟩ := place_same hs hg hll hk hp h1 h2 h3 h4 hlo.2
          unfold f227
          rw [gone_eq hk hp h1 h2 h3 h4]
          simp only [Option.bind_some, e1, e2]
          exact ⟨_, rfl, rfl, e3, fun _ _ => trivial⟩

def mk_Piece (x : Piece) (k : Int) : Piece := { Name := mtext k, Len := k + 1, Speed := k + 1 + 1, Brake := k + 1 + 1 + 1 }
def ck_Piece (x : Piece) : Nat := 1 + (1 + (1 + (1)))
def mk_End (x : End) (k : Int) : End := { Piece := k, Side := k + 1 }
def ck_End (x : End) : Nat := 1 + (1)
def mk_Joint (x : Joint) (k : Int) : Joint := { Kind := k, Name := mtext (k + 1), Ends := markAll mk_End ck_End x.Ends (k + 1 + 1) }
def ck_Joint (x : Joint) : Nat := 1 + (1 + (csum ck_End x.Ends))
def ms_Net (x : Net) (k : Int) : Net := { Pieces := markAll mk_Piece ck_Piece x.Pieces k, Joints := markAll mk_Joint ck_Joint x.Joints (k + ((csum ck_Piece x.Pieces : Nat) : Int)) }
def cs_Net (x : Net) : Nat := csum ck_Piece x.Pieces + (csum ck_Joint x.Joints)
theorem f228_mark {x : List Piece} {k : Int} (hx : (smL (fun _ => True)) x) (h0 : 0 ≤ k) (hb : k + ((csum ck_Piece x : Nat) : Int) ≤ 4611686018427387904) : f228 x k = some (markAll mk_Piece ck_Piece x k, k + ((csum ck_Piece x : Nat) : Int)) := by
  have hl := hx.1
  unfold f228
  refine mark_loop (F := f228_L1) (fun xs k i => (xs, k, i)) mk_Piece ck_Piece (fun _ => True) x.length (fun pre y post k hp h0 hb hn => ?_) (fun ys k hn => ?_) x [] k hx.2 h0 hb rfl
  · have hlen := len_mid hn
    have hb' : k + ((1 + (1 + (1 + (1))) : Nat) : Int) ≤ 4611686018427387904 := hb
    unfold f228_L1
    simp (disch := omega) only [lt_mid, cond_true, getI_mid, set_mid, Option.bind_some, w64_up, mt_eq]
    rw [show k + ((ck_Piece y : Nat) : Int) = k + 1 + 1 + 1 + 1 from by show k + ((1 + (1 + (1 + (1))) : Nat) : Int) = _; omega]
    rfl
  · unfold f228_L1
    simp only [← hn, lt_f, cond_false, Option.map_some]
theorem f310_mark {x : List End} {k : Int} (hx : (smL (fun _ => True)) x) (h0 : 0 ≤ k) (hb : k + ((csum ck_End x : Nat) : Int) ≤ 4611686018427387904) : f310 x k = some (markAll mk_End ck_End x k, k + ((csum ck_End x : Nat) : Int)) := by
  have hl := hx.1
  unfold f310
  refine mark_loop (F := f310_L1) (fun xs k i => (xs, k, i)) mk_End ck_End (fun _ => True) x.length (fun pre y post k hp h0 hb hn => ?_) (fun ys k hn => ?_) x [] k hx.2 h0 hb rfl
  · have hlen := len_mid hn
    have hb' : k + ((1 + (1) : Nat) : Int) ≤ 4611686018427387904 := hb
    unfold f310_L1
    simp (disch := omega) only [lt_mid, cond_true, getI_mid, set_mid, Option.bind_some, w64_up]
    rw [show k + ((ck_End y : Nat) : Int) = k + 1 + 1 from by show k + ((1 + (1) : Nat) : Int) = _; omega]
    rfl
  · unfold f310_L1
    simp only [← hn, lt_f, cond_false, Option.map_some]
theorem f229_mark {x : List Joint} {k : Int} (hx : (smL smJoint) x) (h0 : 0 ≤ k) (hb : k + ((csum ck_Joint x : Nat) : Int) ≤ 4611686018427387904) : f229 x k = some (markAll mk_Joint ck_Joint x k, k + ((csum ck_Joint x : Nat) : Int)) := by
  have hl := hx.1
  unfold f229
  refine mark_loop (F := f229_L1) (fun xs k i => (xs, k, i)) mk_Joint ck_Joint smJoint x.length (fun pre y post k hp h0 hb hn => ?_) (fun ys k hn => ?_) x [] k hx.2 h0 hb rfl
  · have hlen := len_mid hn
    have hb' : k + ((1 + (1 + (csum ck_End y.Ends)) : Nat) : Int) ≤ 4611686018427387904 := hb
    unfold f229_L1
    simp (disch := omega) only [lt_mid, cond_true, getI_mid, set_mid, Option.bind_some, w64_up, mt_eq, f310_mark (x := y.Ends) hp]
    rw [show k + ((ck_Joint y : Nat) : Int) = k + 1 + 1 + ((csum ck_End y.Ends : Nat) : Int) from by show k + ((1 + (1 + (csum ck_End y.Ends)) : Nat) : Int) = _; omega]
    rfl
  · unfold f229_L1
    simp only [← hn, lt_f, cond_false, Option.map_some]
theorem f103_mark {x : Net} {k : Int} (hx : smNet x) (h0 : 0 ≤ k) (hb : k + ((cs_Net x : Nat) : Int) ≤ 4611686018427387904) : f103 x k = some (ms_Net x k, k + ((cs_Net x : Nat) : Int)) := by
  unfold cs_Net at hb
  unfold f103
  rw [f228_mark (x := x.Pieces) (k := k) hx.1 (by omega) (by omega), Option.bind_some]
  dsimp only
  rw [f229_mark (x := x.Joints) (k := k + ((csum ck_Piece x.Pieces : Nat) : Int)) hx.2 (by omega) (by omega), Option.bind_some]
  dsimp only
  rw [show k + ((cs_Net x : Nat) : Int) = k + ((csum ck_Piece x.Pieces : Nat) : Int) + ((csum ck_Joint x.Joints : Nat) : Int) from by unfold cs_Net; omega]
  rfl
theorem ck_Piece_le (x : Piece) (hx : (fun _ => True) x) : ck_Piece x ≤ 4 := by
  unfold ck_Piece
  omega
theorem ck_End_le (x : End) (hx : (fun _ => True) x) : ck_End x ≤ 2 := by
  unfold ck_End
  omega
theorem ck_Joint_le (x : Joint) (hx : smJoint x) : ck_Joint x ≤ 2097154 := by
  unfold ck_Joint
  have h0 : (csum ck_End) x.Ends ≤ 2097152 := by
    have h := (fun _ hx => csum_bd (p := (fun _ => True)) ck_End_le hx.1 hx.2) x.Ends hx
    exact h
  omega
theorem cs_Net_le (x : Net) (hx : smNet x) : cs_Net x ≤ 2199029547008 := by
  unfold cs_Net
  have h0 : (csum ck_Piece) x.Pieces ≤ 4194304 := by
    have h := (fun _ hx => csum_bd (p := (fun _ => True)) ck_Piece_le hx.1 hx.2) x.Pieces hx.1
    exact h
  have h1 : (csum ck_Joint) x.Joints ≤ 2199025352704 := by
    have h := (fun _ hx => csum_bd (p := smJoint) ck_Joint_le hx.1 hx.2) x.Joints hx.2
    exact h
  omega
theorem f31_mark {x : List Int} {k : Int} (hx : (smL (fun _ => True)) x) (h0 : 0 ≤ k) (hb : k + ((csum (fun _ => 1) x : Nat) : Int) ≤ 4611686018427387904) : f31 x k = some (markAll mkI (fun _ => 1) x k, k + ((csum (fun _ => 1) x : Nat) : Int)) := by
  have hl := hx.1
  unfold f31
  refine mark_loop (F := f31_L1) (fun xs k i => (xs, k, i)) mkI (fun _ => 1) (fun _ => True) x.length (fun pre y post k hp h0 hb hn => ?_) (fun ys k hn => ?_) x [] k hx.2 h0 hb rfl
  · have hlen := len_mid hn
    have hb' : k + ((1 : Nat) : Int) ≤ 4611686018427387904 := hb
    unfold f31_L1
    simp (disch := omega) only [lt_mid, cond_true, getI_mid, set_mid, Option.bind_some, w64_up]
    rw [show k + (((fun _ => 1) y : Nat) : Int) = k + 1 from by show k + ((1 : Nat) : Int) = _; omega]
    rfl
  · unfold f31_L1
    simp only [← hn, lt_f, cond_false, Option.map_some]
def mk_Step (x : Step) (k : Int) : Step := { Piece := k, Way := k + 1 }
def ck_Step (x : Step) : Nat := 1 + (1)
def ms_Train (x : Train) (k : Int) : Train := { Front := x.Front, Long := x.Long, Back := markAll mk_Step ck_Step x.Back k }
def cs_Train (x : Train) : Nat := csum ck_Step x.Back
def ms_Placed (x : Placed) (k : Int) : Placed := { Ok := x.Ok, Train := ms_Train x.Train k }
def cs_Placed (x : Placed) : Nat := cs_Train x.Train
theorem f179_mark {x : List Step} {k : Int} (hx : (smL (fun _ => True)) x) (h0 : 0 ≤ k) (hb : k + ((csum ck_Step x : Nat) : Int) ≤ 4611686018427387904) : f179 x k = some (markAll mk_Step ck_Step x k, k + ((csum ck_Step x : Nat) : Int)) := by
  have hl := hx.1
  unfold f179
  refine mark_loop (F := f179_L1) (fun xs k i => (xs, k, i)) mk_Step ck_Step (fun _ => True) x.length (fun pre y post k hp h0 hb hn => ?_) (fun ys k hn => ?_) x [] k hx.2 h0 hb rfl
  · have hlen := len_mid hn
    have hb' : k + ((1 + (1) : Nat) : Int) ≤ 4611686018427387904 := hb
    unfold f179_L1
    simp (disch := omega) only [lt_mid, cond_true, getI_mid, set_mid, Option.bind_some, w64_up]
    rw [show k + ((ck_Step y : Nat) : Int) = k + 1 + 1 from by show k + ((1 + (1) : Nat) : Int) = _; omega]
    rfl
  · unfold f179_L1
    simp only [← hn, lt_f, cond_false, Option.map_some]
theorem f108_mark {x : Train} {k : Int} (hx : smTrain x) (h0 : 0 ≤ k) (hb : k + ((cs_Train x : Nat) : Int) ≤ 4611686018427387904) : f108 x k = some (ms_Train x k, k + ((cs_Train x : Nat) : Int)) := by
  unfold cs_Train at hb
  unfold f108
  rw [f179_mark (x := x.Back) (k := k) hx (by omega) (by omega), Option.bind_some]
  dsimp only
  rw [show k + ((cs_Train x : Nat) : Int) = k + ((csum ck_Step x.Back : Nat) : Int) from by unfold cs_Train; omega]
  rfl
theorem f104_mark {x : Placed} {k : Int} (hx : smPlaced x) (h0 : 0 ≤ k) (hb : k + ((cs_Placed x : Nat) : Int) ≤ 4611686018427387904) : f104 x k = some (ms_Placed x k, k + ((cs_Placed x : Nat) : Int)) := by
  unfold cs_Placed at hb
  unfold f104
  rw [f108_mark (x := x.Train) (k := k) hx (by omega) (by omega), Option.bind_some]
  dsimp only
  rw [show k + ((cs_Placed x : Nat) : Int) = k + ((cs_Train x.Train : Nat) : Int) from by unfold cs_Placed; omega]
  rfl
theorem ck_Step_le (x : Step) (hx : (fun _ => True) x) : ck_Step x ≤ 2 := by
  unfold ck_Step
  omega
theorem cs_Train_le (x : Train) (hx : smTrain x) : cs_Train x ≤ 2097152 := by
  unfold cs_Train
  have h0 : (csum ck_Step) x.Back ≤ 2097152 := by
    have h := (fun _ hx => csum_bd (p := (fun _ => True)) ck_Step_le hx.1 hx.2) x.Back hx
    exact h
  omega
theorem cs_Placed_le (x : Placed) (hx : smPlaced x) : cs_Placed x ≤ 2097152 := by
  unfold cs_Placed
  have h0 : cs_Train x.Train ≤ 2097152 := by
    have h := cs_Train_le x.Train hx
    exact h
  omega
theorem f231_held {x : List Step} {k : Int} (hx : (smL (fun _ => True)) x) (h0 : 0 ≤ k) (hb : k + ((csum ck_Step x : Nat) : Int) ≤ 4611686018427387904) : f231 (markAll mk_Step ck_Step x k) k = some (k + ((csum ck_Step x : Nat) : Int)) := by
  have hl := hx.1
  unfold f231
  refine held_loop (F := f231_L1 (markAll mk_Step ck_Step x k)) (fun k i => (k, i)) mk_Step ck_Step (fun _ => True) (markAll mk_Step ck_Step x k) (fun i y k hp h0 hb hy => ?_) (fun k2 => ?_) x [] k rfl hx.2 h0 hb
  · have hlen := get_lt hy
    have hlt := lt_t hlen
    rw [markAll_len] at hlen
    have hb' : k + ((1 + (1) : Nat) : Int) ≤ 4611686018427387904 := hb
    unfold f231_L1
    simp (disch := omega) only [hlt, cond_true, getI_nat, hy, Option.bind_some, mk_Step, bne_self_eq_false, beq_self_eq_true, Bool.not_true, cond_false, w64_up, ltz]
    rw [show k + ((ck_Step y : Nat) : Int) = k + 1 + 1 from by show k + ((1 + (1) : Nat) : Int) = _; omega]
    rfl
  · unfold f231_L1
    simp only [lt_f, cond_false, Option.map_some]
theorem f109_held {x : Train} {k : Int} (hx : smTrain x) (h0 : 0 ≤ k) (hb : k + ((cs_Train x : Nat) : Int) ≤ 4611686018427387904) : f109 (ms_Train x k) k = some (k + ((cs_Train x : Nat) : Int)) := by
  unfold cs_Train at hb
  unfold f109 ms_Train
  dsimp only
  rw [f231_held (x := x.Back) (k := k) hx (by omega) (by omega), Option.bind_some, ltz (by omega), cond_false]
  rw [show k + ((cs_Train x : Nat) : Int) = k + ((csum ck_Step x.Back : Nat) : Int) from by unfold cs_Train; omega]
theorem f105_held {x : Placed} {k : Int} (hx : smPlaced x) (h0 : 0 ≤ k) (hb : k + ((cs_Placed x : Nat) : Int) ≤ 4611686018427387904) : f105 (ms_Placed x k) k = some (k + ((cs_Placed x : Nat) : Int)) := by
  unfold cs_Placed at hb
  unfold f105 ms_Placed
  dsimp only
  rw [f109_held (x := x.Train) (k := k) hx (by omega) (by omega), Option.bind_some, ltz (by omega), cond_false]
  rw [show k + ((cs_Placed x : Nat) : Int) = k + ((cs_Train x.Train : Nat) : Int) from by unfold cs_Placed; omega]
theorem law17 (aAN0 : Net) (aALies1 : List Int) (aAS2 : Spot) (aALong3 : Int) (haAN0 : fitNet aAN0) (haALies1 : (fitsL fitsI) aALies1) (haAS2 : fitSpot aAS2) (haALong3 : fitsI aALong3) : f17 aAN0 aALies1 aAS2 aALong3 = some true := by
  unfold f17
  rcases Bool.eq_false_or_eq_true (decide ((aALies1.length : Int) > (1048576:Int))) with hb0 | hb0
  · rw [hb0]; rfl
  rw [hb0, cond_false]; simp only [decide_eq_false_iff_not] at hb0
  have saALies1 : smL (fun _ => True) aALies1 := ⟨by omega, fun _ _ => trivial⟩
  obtain ⟨v1, e1, a1, b1⟩ := f77_sz (x := aAN0) (left := 1048576) (by omega) (by omega) haAN0
  rw [e1, Option.bind_some]
  rcases Bool.eq_false_or_eq_true (decide (v1 < (0 : Int))) with hb1 | hb1
  · rw [hb1]; rfl
  rw [hb1, cond_false]; simp only [decide_eq_false_iff_not] at hb1
  have saAN0 := b1.resolve_left hb1
  obtain ⟨r, m1, m2, m3⟩ := main17 haAN0 haALies1 haAS2 haALong3 saAN0 saALies1
  have u0 : cs_Net aAN0 ≤ 2199029547008 := by
    have h := cs_Net_le aAN0 saAN0
    exact h
  have k0 := f103_mark (x := aAN0) (k := (1 : Int)) saAN0 (by omega) (by omega)
  have u1 : (csum (fun _ => 1)) aALies1 ≤ 1048576 := by
    have h := (fun _ hx => csum_bd (p := (fun _ => True)) (fun _ _ => Nat.le_refl 1) hx.1 hx.2) aALies1 saALies1
    exact h
  have k1 := f31_mark (x := aALies1) (k := (1 : Int) + ((cs_Net aAN0 : Nat) : Int)) saALies1 (by omega) (by omega)
  have u2 : cs_Placed r ≤ 2097152 := by
    have h := cs_Placed_le r m3
    exact h
  have k2 := f104_mark (x := r) (k := (1 : Int)) m3 (by omega) (by omega)
  have j2 := f105_held (x := r) (k := (1 : Int)) m3 (by omega) (by omega)
  simp only [f80_to (x := aAN0) saAN0, f97_to (x := aALies1) saALies1, f100_to (x := aAS2) trivial, f28_eq (x := aALies1) saALies1, f83_eq (x := aAN0) saAN0, f102_eq (x := r) m3, k0, ltz (show (0:Int) ≤ (1 : Int) + ((cs_Net aAN0 : Nat) : Int) by omega), k1, ltz (show (0:Int) ≤ (1 : Int) + ((cs_Net aAN0 : Nat) : Int) + (((csum (fun _ => 1)) aALies1 : Nat) : Int) by omega), k2, ltz (show (0:Int) ≤ (1 : Int) + ((cs_Placed r : Nat) : Int) by omega), j2, Option.bind_some, m1, m2, bne_self_eq_false, beq_self_eq_true, Bool.not_true, cond_false]

end
end Go.Proofs.Ytkfekjcahepfnaa.K
