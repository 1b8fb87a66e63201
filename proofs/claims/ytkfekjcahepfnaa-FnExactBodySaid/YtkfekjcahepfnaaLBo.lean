/-
  The plain part of the law FnExactBody: on typed values it returns true at every input. No conditions.
-/
import Derived.Test.YtkfekjcahepfnaaDBo
set_option linter.unusedVariables false
set_option linter.unusedSimpArgs false
set_option maxRecDepth 100000
namespace Go.Proofs.Ytkfekjcahepfnaa.K
noncomputable section
open Go.ChangeShapes Go.WideShapes Go.ChangeAt Go.RowKit
abbrev fitPiece (x : Piece) : Prop := (fun s => s.size ≤ 9223372036854775807) x.Name ∧ fitsI x.Len ∧ fitsI x.Speed ∧ fitsI x.Brake
abbrev fitEnd (x : End) : Prop := fitsI x.Piece ∧ fitsI x.Side
abbrev fitJoint (x : Joint) : Prop := fitsI x.Kind ∧ (fun s => s.size ≤ 9223372036854775807) x.Name ∧ (fitsL fitEnd) x.Ends
abbrev fitNet (x : Net) : Prop := (fitsL fitPiece) x.Pieces ∧ (fitsL fitJoint) x.Joints
abbrev smJoint (x : Joint) : Prop := (smL (fun _ => True)) x.Ends
abbrev smNet (x : Net) : Prop := (smL (fun _ => True)) x.Pieces ∧ (smL smJoint) x.Joints
abbrev fitSpot (x : Spot) : Prop := fitsI x.Piece ∧ fitsI x.At ∧ fitsI x.Way
abbrev fitStep (x : Step) : Prop := fitsI x.Piece ∧ fitsI x.Way
abbrev fitTrain (x : Train) : Prop := fitSpot x.Front ∧ fitsI x.Long ∧ (fitsL fitStep) x.Back
abbrev smTrain (x : Train) : Prop := (smL (fun _ => True)) x.Back
theorem rd9 : Reads Try.prog 9 ByteArray (fun s => s.size ≤ 9223372036854775807) := reads_str Try.underlying9
theorem rd3 : Reads Try.prog 3 Int fitsI := reads_int Try.underlying3
theorem rd322 : Reads Try.prog 322 Piece fitPiece := by
  intro K enc W sp fuel cs d ps h
  obtain ⟨fu, hl, hf⟩ := trod_struct Try.underlying322 h
  have hl : cs.length = 4 := hl
  obtain ⟨_, _, h0⟩ := hf _ (List.Mem.head _)
  obtain ⟨x0, r0, g0⟩ := rd9 _ _ _ _ _ _ _ h0
  obtain ⟨_, _, h1⟩ := hf _ (List.Mem.tail _ (List.Mem.head _))
  obtain ⟨x1, r1, g1⟩ := rd3 _ _ _ _ _ _ _ h1
  obtain ⟨_, _, h2⟩ := hf _ (List.Mem.tail _ (List.Mem.tail _ (List.Mem.head _)))
  obtain ⟨x2, r2, g2⟩ := rd3 _ _ _ _ _ _ _ h2
  obtain ⟨_, _, h3⟩ := hf _ (List.Mem.tail _ (List.Mem.tail _ (List.Mem.tail _ (List.Mem.head _))))
  obtain ⟨x3, r3, g3⟩ := rd3 _ _ _ _ _ _ _ h3
  exact ⟨⟨x0, x1, x2, x3⟩, fld (off := 0) (sz := 1) r0 (fld (off := 1) (sz := 1) r1 (fld (off := 2) (sz := 1) r2 (fldLast (sz := 1) hl r3))), g0, g1, g2, g3⟩
theorem rd118 : Reads Try.prog 118 (List Piece) (fitsL fitPiece) := reads_slice Try.underlying118 rfl rd322
theorem rd394 : Reads Try.prog 394 End fitEnd := by
  intro K enc W sp fuel cs d ps h
  obtain ⟨fu, hl, hf⟩ := trod_struct Try.underlying394 h
  have hl : cs.length = 2 := hl
  obtain ⟨_, _, h0⟩ := hf _ (List.Mem.head _)
  obtain ⟨x0, r0, g0⟩ := rd3 _ _ _ _ _ _ _ h0
  obtain ⟨_, _, h1⟩ := hf _ (List.Mem.tail _ (List.Mem.head _))
  obtain ⟨x1, r1, g1⟩ := rd3 _ _ _ _ _ _ _ h1
  exact ⟨⟨x0, x1⟩, fld (off := 0) (sz := 1) r0 (fldLast (sz := 1) hl r1), g0, g1⟩
theorem rd324 : Reads Try.prog 324 (List End) (fitsL fitEnd) := reads_slice Try.underlying324 rfl rd394
theorem rd326 : Reads Try.prog 326 Joint fitJoint := by
  intro K enc W sp fuel cs d ps h
  obtain ⟨fu, hl, hf⟩ := trod_struct Try.underlying326 h
  have hl : cs.length = 3 := hl
  obtain ⟨_, _, h0⟩ := hf _ (List.Mem.head _)
  obtain ⟨x0, r0, g0⟩ := rd3 _ _ _ _ _ _ _ h0
  obtain ⟨_, _, h1⟩ := hf _ (List.Mem.tail _ (List.Mem.head _))
  obtain ⟨x1, r1, g1⟩ := rd9 _ _ _ _ _ _ _ h1
  obtain ⟨_, _, h2⟩ := hf _ (List.Mem.tail _ (List.Mem.tail _ (List.Mem.head _)))
  obtain ⟨x2, r2, g2⟩ := rd324 _ _ _ _ _ _ _ h2
  exact ⟨⟨x0, x1, x2⟩, fld (off := 0) (sz := 1) r0 (fld (off := 1) (sz := 1) r1 (fldLast (sz := 1) hl r2)), g0, g1, g2⟩
theorem rd119 : Reads Try.prog 119 (List Joint) (fitsL fitJoint) := reads_slice Try.underlying119 rfl rd326
theorem rd121 : Reads Try.prog 121 Net fitNet := by
  intro K enc W sp fuel cs d ps h
  obtain ⟨fu, hl, hf⟩ := trod_struct Try.underlying121 h
  have hl : cs.length = 2 := hl
  obtain ⟨_, _, h0⟩ := hf _ (List.Mem.head _)
  obtain ⟨x0, r0, g0⟩ := rd118 _ _ _ _ _ _ _ h0
  obtain ⟨_, _, h1⟩ := hf _ (List.Mem.tail _ (List.Mem.head _))
  obtain ⟨x1, r1, g1⟩ := rd119 _ _ _ _ _ _ _ h1
  exact ⟨⟨x0, x1⟩, fld (off := 0) (sz := 1) r0 (fldLast (sz := 1) hl r1), g0, g1⟩
theorem rd123 : Reads Try.prog 123 Spot fitSpot := by
  intro K enc W sp fuel cs d ps h
  obtain ⟨fu, hl, hf⟩ := trod_struct Try.underlying123 h
  have hl : cs.length = 3 := hl
  obtain ⟨_, _, h0⟩ := hf _ (List.Mem.head _)
  obtain ⟨x0, r0, g0⟩ := rd3 _ _ _ _ _ _ _ h0
  obtain ⟨_, _, h1⟩ := hf _ (List.Mem.tail _ (List.Mem.head _))
  obtain ⟨x1, r1, g1⟩ := rd3 _ _ _ _ _ _ _ h1
  obtain ⟨_, _, h2⟩ := hf _ (List.Mem.tail _ (List.Mem.tail _ (List.Mem.head _)))
  obtain ⟨x2, r2, g2⟩ := rd3 _ _ _ _ _ _ _ h2
  exact ⟨⟨x0, x1, x2⟩, fld (off := 0) (sz := 1) r0 (fld (off := 1) (sz := 1) r1 (fldLast (sz := 1) hl r2)), g0, g1, g2⟩
theorem rd289 : Reads Try.prog 289 Step fitStep := by
  intro K enc W sp fuel cs d ps h
  obtain ⟨fu, hl, hf⟩ := trod_struct Try.underlying289 h
  have hl : cs.length = 2 := hl
  obtain ⟨_, _, h0⟩ := hf _ (List.Mem.head _)
  obtain ⟨x0, r0, g0⟩ := rd3 _ _ _ _ _ _ _ h0
  obtain ⟨_, _, h1⟩ := hf _ (List.Mem.tail _ (List.Mem.head _))
  obtain ⟨x1, r1, g1⟩ := rd3 _ _ _ _ _ _ _ h1
  exact ⟨⟨x0, x1⟩, fld (off := 0) (sz := 1) r0 (fldLast (sz := 1) hl r1), g0, g1⟩
theorem rd55 : Reads Try.prog 55 (List Step) (fitsL fitStep) := reads_slice Try.underlying55 rfl rd289
theorem rd125 : Reads Try.prog 125 Train fitTrain := by
  intro K enc W sp fuel cs d ps h
  obtain ⟨fu, hl, hf⟩ := trod_struct Try.underlying125 h
  have hl : cs.length = 5 := hl
  obtain ⟨_, _, h0⟩ := hf _ (List.Mem.head _)
  obtain ⟨x0, r0, g0⟩ := rd123 _ _ _ _ _ _ _ h0
  obtain ⟨_, _, h1⟩ := hf _ (List.Mem.tail _ (List.Mem.head _))
  obtain ⟨x1, r1, g1⟩ := rd3 _ _ _ _ _ _ _ h1
  obtain ⟨_, _, h2⟩ := hf _ (List.Mem.tail _ (List.Mem.tail _ (List.Mem.head _)))
  obtain ⟨x2, r2, g2⟩ := rd55 _ _ _ _ _ _ _ h2
  exact ⟨⟨x0, x1, x2⟩, fld (off := 0) (sz := 3) r0 (fld (off := 3) (sz := 1) r1 (fldLast (sz := 1) hl r2)), g0, g1, g2⟩
theorem f282_sz {x : Piece} {left : Int} (h0 : 0 ≤ left) (h1 : left ≤ 1048576) (hx : fitPiece x) : ∃ v, f282 x left = some v ∧ v ≤ left ∧ (v < 0 ∨ (fun _ => True) x) := by
  unfold f282
  have hz0 : x.Name.size ≤ 9223372036854775807 := hx.1
  obtain ⟨v0, e0, a0⟩ : ∃ v, w64 (left - (x.Name.size : Int)) = v ∧ v ≤ left := ⟨_, rfl, by rw [w64_id ⟨by omega, by omega⟩]; omega⟩
  rw [e0]
  rcases Bool.eq_false_or_eq_true (decide (v0 < (0 : Int))) with hb0 | hb0
  · rw [hb0]; exact ⟨_, rfl, by omega, .inl (by decide)⟩
  rw [hb0, cond_false]; simp only [decide_eq_false_iff_not] at hb0
  exact ⟨_, rfl, by omega, .inr trivial⟩
theorem f193_sz {x : List Piece} {left : Int} (h0 : 0 ≤ left) (h1 : left ≤ 1048576) (hx : (fitsL fitPiece) x) : ∃ v, f193 x left = some v ∧ v ≤ left ∧ (v < 0 ∨ (smL (fun _ => True)) x) := by
  unfold f193
  refine sz_deep (g := f282) (fit := fitPiece) (sm := (fun _ => True)) (fun x l a b c => f282_sz b c a) (fun l i x hi => ?_) (fun l => ?_) h0 h1 hx
  · unfold f193_L1
    simp only [lt_t (get_lt hi), cond_true, getI_nat, hi, Option.bind_some, Option.map_some]
  · unfold f193_L1
    simp only [lt_f, cond_false, Option.map_some]
theorem f328_sz {x : List End} {left : Int} (h0 : 0 ≤ left) (h1 : left ≤ 1048576) (hx : (fitsL fitEnd) x) : ∃ v, f328 x left = some v ∧ v ≤ left ∧ (v < 0 ∨ (smL (fun _ => True)) x) := by
  unfold f328
  obtain ⟨v, e1, e2, e3⟩ := sz_flat (xs := x) h0 h1 hx.1
  exact ⟨v, e1, e2, e3.imp id fun h => ⟨h.1, fun _ _ => trivial⟩⟩
theorem f283_sz {x : Joint} {left : Int} (h0 : 0 ≤ left) (h1 : left ≤ 1048576) (hx : fitJoint x) : ∃ v, f283 x left = some v ∧ v ≤ left ∧ (v < 0 ∨ smJoint x) := by
  unfold f283
  have hz0 : x.Name.size ≤ 9223372036854775807 := hx.2.1
  obtain ⟨v0, e0, a0⟩ : ∃ v, w64 (left - (x.Name.size : Int)) = v ∧ v ≤ left := ⟨_, rfl, by rw [w64_id ⟨by omega, by omega⟩]; omega⟩
  rw [e0]
  rcases Bool.eq_false_or_eq_true (decide (v0 < (0 : Int))) with hb0 | hb0
  · rw [hb0]; exact ⟨_, rfl, by omega, .inl (by decide)⟩
  rw [hb0, cond_false]; simp only [decide_eq_false_iff_not] at hb0
  obtain ⟨v1, e1, a1, b1⟩ := f328_sz (x := x.Ends) (left := v0) (by omega) (by omega) hx.2.2
  rw [e1, Option.bind_some]
  rcases Bool.eq_false_or_eq_true (decide (v1 < (0 : Int))) with hb1 | hb1
  · rw [hb1]; exact ⟨_, rfl, by omega, .inl (by decide)⟩
  rw [hb1, cond_false]; simp only [decide_eq_false_iff_not] at hb1
  exact ⟨_, rfl, by omega, .inr (b1.resolve_left hb1)⟩
theorem f194_sz {x : List Joint} {left : Int} (h0 : 0 ≤ left) (h1 : left ≤ 1048576) (hx : (fitsL fitJoint) x) : ∃ v, f194 x left = some v ∧ v ≤ left ∧ (v < 0 ∨ (smL smJoint) x) := by
  unfold f194
  refine sz_deep (g := f283) (fit := fitJoint) (sm := smJoint) (fun x l a b c => f283_sz b c a) (fun l i x hi => ?_) (fun l => ?_) h0 h1 hx
  · unfold f194_L1
    simp only [lt_t (get_lt hi), cond_true, getI_nat, hi, Option.bind_some, Option.map_some]
  · unfold f194_L1
    simp only [lt_f, cond_false, Option.map_some]
theorem f77_sz {x : Net} {left : Int} (h0 : 0 ≤ left) (h1 : left ≤ 1048576) (hx : fitNet x) : ∃ v, f77 x left = some v ∧ v ≤ left ∧ (v < 0 ∨ smNet x) := by
  unfold f77
  obtain ⟨v0, e0, a0, b0⟩ := f193_sz (x := x.Pieces) (left := left) (by omega) (by omega) hx.1
  rw [e0, Option.bind_some]
  rcases Bool.eq_false_or_eq_true (decide (v0 < (0 : Int))) with hb0 | hb0
  · rw [hb0]; exact ⟨_, rfl, by omega, .inl (by decide)⟩
  rw [hb0, cond_false]; simp only [decide_eq_false_iff_not] at hb0
  obtain ⟨v1, e1, a1, b1⟩ := f194_sz (x := x.Joints) (left := v0) (by omega) (by omega) hx.2
  rw [e1, Option.bind_some]
  rcases Bool.eq_false_or_eq_true (decide (v1 < (0 : Int))) with hb1 | hb1
  · rw [hb1]; exact ⟨_, rfl, by omega, .inl (by decide)⟩
  rw [hb1, cond_false]; simp only [decide_eq_false_iff_not] at hb1
  exact ⟨_, rfl, by omega, .inr ⟨b0.resolve_left hb0, b1.resolve_left hb1⟩⟩
theorem f150_sz {x : List Step} {left : Int} (h0 : 0 ≤ left) (h1 : left ≤ 1048576) (hx : (fitsL fitStep) x) : ∃ v, f150 x left = some v ∧ v ≤ left ∧ (v < 0 ∨ (smL (fun _ => True)) x) := by
  unfold f150
  obtain ⟨v, e1, e2, e3⟩ := sz_flat (xs := x) h0 h1 hx.1
  exact ⟨v, e1, e2, e3.imp id fun h => ⟨h.1, fun _ _ => trivial⟩⟩
theorem f78_sz {x : Train} {left : Int} (h0 : 0 ≤ left) (h1 : left ≤ 1048576) (hx : fitTrain x) : ∃ v, f78 x left = some v ∧ v ≤ left ∧ (v < 0 ∨ smTrain x) := by
  unfold f78
  obtain ⟨v0, e0, a0, b0⟩ := f150_sz (x := x.Back) (left := left) (by omega) (by omega) hx.2.2
  rw [e0, Option.bind_some]
  rcases Bool.eq_false_or_eq_true (decide (v0 < (0 : Int))) with hb0 | hb0
  · rw [hb0]; exact ⟨_, rfl, by omega, .inl (by decide)⟩
  rw [hb0, cond_false]; simp only [decide_eq_false_iff_not] at hb0
  exact ⟨_, rfl, by omega, .inr (b0.resolve_left hb0)⟩
theorem f286_to {x : Piece} (hx : (fun _ => True) x) : f286 x = some x := by
  unfold f286
  rfl
theorem f197_to {x : List Piece} (hx : (smL (fun _ => True)) x) : f197 x = some x := by
  have hl := hx.1
  unfold f197
  rw [makeB_ok (by omega), Option.bind_some]
  have := fill x (fun y => y) (⟨ByteArray.empty, 0, 0, 0⟩ : Piece) (F := f197_L1 x) (fun ys i y hi hy => ?_) (fun ys => ?_)
  · rw [List.map_id'] at this; exact this
  · have hlt := get_lt hi
    unfold f197_L1
    have hg := f286_to (x := y) (hx.2 _ (List.mem_of_getElem? hi))
    simp only [lt_t (get_lt hi), cond_true, getI_nat, hi, Option.bind_some, hg]
    rw [List.getElem?_eq_getElem (by omega), Option.bind_some, w64_nat (by omega)]
    rfl
  · unfold f197_L1
    simp only [lt_f, cond_false, Option.map_some]
theorem f353_to {x : End} (hx : (fun _ => True) x) : f353 x = some x := by
  unfold f353
  rfl
theorem f333_to {x : List End} (hx : (smL (fun _ => True)) x) : f333 x = some x := by
  have hl := hx.1
  unfold f333
  rw [makeB_ok (by omega), Option.bind_some]
  have := fill x (fun y => y) (⟨0, 0⟩ : End) (F := f333_L1 x) (fun ys i y hi hy => ?_) (fun ys => ?_)
  · rw [List.map_id'] at this; exact this
  · have hlt := get_lt hi
    unfold f333_L1
    have hg := f353_to (x := y) (hx.2 _ (List.mem_of_getElem? hi))
    simp only [lt_t (get_lt hi), cond_true, getI_nat, hi, Option.bind_some, hg]
    rw [List.getElem?_eq_getElem (by omega), Option.bind_some, w64_nat (by omega)]
    rfl
  · unfold f333_L1
    simp only [lt_f, cond_false, Option.map_some]
theorem f287_to {x : Joint} (hx : smJoint x) : f287 x = some x := by
  unfold f287
  rw [f333_to (x := x.Ends) hx]
  rfl
theorem f198_to {x : List Joint} (hx : (smL smJoint) x) : f198 x = some x := by
  have hl := hx.1
  unfold f198
  rw [makeB_ok (by omega), Option.bind_some]
  have := fill x (fun y => y) (⟨0, ByteArray.empty, []⟩ : Joint) (F := f198_L1 x) (fun ys i y hi hy => ?_) (fun ys => ?_)
  · rw [List.map_id'] at this; exact this
  · have hlt := get_lt hi
    unfold f198_L1
    have hg := f287_to (x := y) (hx.2 _ (List.mem_of_getElem? hi))
    simp only [lt_t (get_lt hi), cond_true, getI_nat, hi, Option.bind_some, hg]
    rw [List.getElem?_eq_getElem (by omega), Option.bind_some, w64_nat (by omega)]
    rfl
  · unfold f198_L1
    simp only [lt_f, cond_false, Option.map_some]
theorem f80_to {x : Net} (hx : smNet x) : f80 x = some x := by
  unfold f80
  rw [f197_to (x := x.Pieces) hx.1, f198_to (x := x.Joints) hx.2]
  rfl
theorem f100_to {x : Spot} (hx : (fun _ => True) x) : f100 x = some x := by
  unfold f100
  rfl
theorem f256_to {x : Step} (hx : (fun _ => True) x) : f256 x = some x := by
  unfold f256
  rfl
theorem f156_to {x : List Step} (hx : (smL (fun _ => True)) x) : f156 x = some x := by
  have hl := hx.1
  unfold f156
  rw [makeB_ok (by omega), Option.bind_some]
  have := fill x (fun y => y) (⟨0, 0⟩ : Step) (F := f156_L1 x) (fun ys i y hi hy => ?_) (fun ys => ?_)
  · rw [List.map_id'] at this; exact this
  · have hlt := get_lt hi
    unfold f156_L1
    have hg := f256_to (x := y) (hx.2 _ (List.mem_of_getElem? hi))
    simp only [lt_t (get_lt hi), cond_true, getI_nat, hi, Option.bind_some, hg]
    rw [List.getElem?_eq_getElem (by omega), Option.bind_some, w64_nat (by omega)]
    rfl
  · unfold f156_L1
    simp only [lt_f, cond_false, Option.map_some]
theorem f81_to {x : Train} (hx : smTrain x) : f81 x = some x := by
  unfold f81
  rw [f100_to (x := x.Front) trivial, f156_to (x := x.Back) hx]
  rfl
theorem f295_eq {x : Piece} (hx : (fun _ => True) x) : f295 x x = some true := by
  unfold f295
  simp only [bne_self_eq_false, beq_self_eq_true, Bool.not_true, cond_false]
theorem f201_eq {x : List Piece} (hx : (smL (fun _ => True)) x) : f201 x x = some true := by
  unfold f201
  simp only [bne_self_eq_false, cond_false]
  refine eq_all (F := f201_L1 x x) hx.1 (fun i y hi => ?_) ?_
  · unfold f201_L1
    have hg := f295_eq (x := y) (hx.2 _ (List.mem_of_getElem? hi))
    simp only [lt_t (get_lt hi), cond_true, getI_nat, hi, Option.bind_some, hg, Bool.not_true, cond_false]
  · unfold f201_L1
    simp only [lt_f, cond_false, Option.map_some]
theorem f354_eq {x : End} (hx : (fun _ => True) x) : f354 x x = some true := by
  unfold f354
  simp only [bne_self_eq_false, beq_self_eq_true, Bool.not_true, cond_false]
theorem f339_eq {x : List End} (hx : (smL (fun _ => True)) x) : f339 x x = some true := by
  unfold f339
  simp only [bne_self_eq_false, cond_false]
  refine eq_all (F := f339_L1 x x) hx.1 (fun i y hi => ?_) ?_
  · unfold f339_L1
    have hg := f354_eq (x := y) (hx.2 _ (List.mem_of_getElem? hi))
    simp only [lt_t (get_lt hi), cond_true, getI_nat, hi, Option.bind_some, hg, Bool.not_true, cond_false]
  · unfold f339_L1
    simp only [lt_f, cond_false, Option.map_some]
theorem f296_eq {x : Joint} (hx : smJoint x) : f296 x x = some true := by
  unfold f296
  simp only [bne_self_eq_false, beq_self_eq_true, Bool.not_true, cond_false, f339_eq (x := x.Ends) hx, Option.bind_some]
theorem f202_eq {x : List Joint} (hx : (smL smJoint) x) : f202 x x = some true := by
  unfold f202
  simp only [bne_self_eq_false, cond_false]
  refine eq_all (F := f202_L1 x x) hx.1 (fun i y hi => ?_) ?_
  · unfold f202_L1
    have hg := f296_eq (x := y) (hx.2 _ (List.mem_of_getElem? hi))
    simp only [lt_t (get_lt hi), cond_true, getI_nat, hi, Option.bind_some, hg, Bool.not_true, cond_false]
  · unfold f202_L1
    simp only [lt_f, cond_false, Option.map_some]
theorem f83_eq {x : Net} (hx : smNet x) : f83 x x = some true := by
  unfold f83
  simp only [bne_self_eq_false, beq_self_eq_true, Bool.not_true, cond_false, f201_eq (x := x.Pieces) hx.1, f202_eq (x := x.Joints) hx.2, Option.bind_some]
theorem f87_eq {x : Spot} (hx : (fun _ => True) x) : f87 x x = some true := by
  unfold f87
  simp only [bne_self_eq_false, beq_self_eq_true, Bool.not_true, cond_false]
theorem f263_eq {x : Step} (hx : (fun _ => True) x) : f263 x x = some true := by
  unfold f263
  simp only [bne_self_eq_false, beq_self_eq_true, Bool.not_true, cond_false]
theorem f163_eq {x : List Step} (hx : (smL (fun _ => True)) x) : f163 x x = some true := by
  unfold f163
  simp only [bne_self_eq_false, cond_false]
  refine eq_all (F := f163_L1 x x) hx.1 (fun i y hi => ?_) ?_
  · unfold f163_L1
    have hg := f263_eq (x := y) (hx.2 _ (List.mem_of_getElem? hi))
    simp only [lt_t (get_lt hi), cond_true, getI_nat, hi, Option.bind_some, hg, Bool.not_true, cond_false]
  · unfold f163_L1
    simp only [lt_f, cond_false, Option.map_some]
theorem f84_eq {x : Train} (hx : smTrain x) : f84 x x = some true := by
  unfold f84
  simp only [bne_self_eq_false, beq_self_eq_true, Bool.not_true, cond_false, f87_eq (x := x.Front) trivial, f163_eq (x := x.Back) hx, Option.bind_some]
theorem f233_eq {x : Part} (hx : (fun _ => True) x) : f233 x x = some true := by
  unfold f233
  simp only [bne_self_eq_false, beq_self_eq_true, Bool.not_true, cond_false]
theorem f112_eq {x : List Part} (hx : (smL (fun _ => True)) x) : f112 x x = some true := by
  unfold f112
  simp only [bne_self_eq_false, cond_false]
  refine eq_all (F := f112_L1 x x) hx.1 (fun i y hi => ?_) ?_
  · unfold f112_L1
    have hg := f233_eq (x := y) (hx.2 _ (List.mem_of_getElem? hi))
    simp only [lt_t (get_lt hi), cond_true, getI_nat, hi, Option.bind_some, hg, Bool.not_true, cond_false]
  · unfold f112_L1
    simp only [lt_f, cond_false, Option.map_some]
theorem str_eq (a b : ByteArray) : (a.toList == b.toList) = decide (a = b) := by
  rw [Bool.eq_iff_iff, decide_eq_true_eq, ByteArray.toList_eq, ByteArray.toList_eq, beq_iff_eq]
  exact ⟨fun h => by cases a; cases b; simp only [Array.toList_inj] at h; rw [h], fun h => by rw [h]⟩
/-- The first place, if any, at which a search ends. -/
def firstO {ρ : Type} (n : Nat) (b : Nat → Option ρ) (e : Option ρ) : Option ρ := match (List.range n).findSome? b with | some r => some r | none => e
theorem firstO_none {ρ : Type} {n : Nat} {b : Nat → Option ρ} {e : Option ρ} (h : ∀ i, i < n → b i = none) : firstO n b e = e := by
  unfold firstO
  rw [List.findSome?_eq_none_iff.2 (fun x hx => h x (List.mem_range.1 hx))]
theorem firstO_some {ρ : Type} {n : Nat} {b : Nat → Option ρ} {e : Option ρ} {i : Nat} {r : ρ} (hi : i < n) (h : ∀ j, j < i → b j = none) (hr : b i = some r) : firstO n b e = some r := by
  unfold firstO
  have e1 : n = i + ((n - i - 1) + 1) := by omega
  have h0 : (List.range i).findSome? b = none := List.findSome?_eq_none_iff.2 fun x hx => h x (List.mem_range.1 hx)
  rw [e1, List.range_add, List.findSome?_append, h0, List.range_succ_eq_map]
  simp [hr]
/-- A search is: no place ends it, or a first one does. -/
theorem first_cases {ρ : Type} (n : Nat) (b : Nat → Option ρ) : (∀ i, i < n → b i = none) ∨ ∃ i r, i < n ∧ (∀ j, j < i → b j = none) ∧ b i = some r := by
  induction n with
  | zero => exact .inl (fun i hi => by omega)
  | succ n ih =>
    rcases ih with h | ⟨i, r, h1, h2, h3⟩
    · cases hb : b n with
      | none =>
        refine .inl (fun i hi => ?_)
        rcases Nat.lt_or_ge i n with hl | hl
        · exact h i hl
        · have : i = n := by omega
          subst this; exact hb
      | some r => exact .inr ⟨n, r, by omega, h, hb⟩
    · exact .inr ⟨i, r, by omega, h2, h3⟩
/-- A loop that searches. -/
theorem loop_find {σ ρ : Type} {F : σ → Option (σ ⊕ ρ)} (n : Nat) (st : Nat → σ) (b : Nat → Option ρ) (e : Option ρ) (h : ∀ i, i < n → (∀ j, j < i → b j = none) → F (st i) = some ((b i).elim (.inl (st (i + 1))) .inr)) (hend : (∀ j, j < n → b j = none) → F (st n) = e.map .inr) : loopO F (st 0) = firstO n b e := by
  have key : ∀ k i, i + k = n → (∀ j, j < i → b j = none) → loopO F (st i) = firstO n b e := by
    intro k
    induction k with
    | zero =>
      intro i hi hb
      have : i = n := by omega
      subst this
      rw [loopO_eq, hend hb, firstO_none hb]
      cases e <;> rfl
    | succ k ih =>
      intro i hi hb
      rw [loopO_eq, h i (by omega) hb]
      cases hr : b i with
      | some r => rw [firstO_some (by omega) hb hr]; rfl
      | none =>
        simp only [Option.bind_some, Option.elim]
        refine ih (i + 1) (by omega) (fun j hj => ?_)
        rcases Nat.lt_or_ge j i with hl | hl
        · exact hb j hl
        · have : j = i := by omega
          subst this; exact hr
  exact key n 0 (by omega) (fun j hj => by omega)
/-- A loop that gathers. -/
theorem loop_fold {α β ρ : Type} {F : β × Int → Option ((β × Int) ⊕ ρ)} (xs : List α) (g : β → α → β) (a0 : β) (e : β → Option ρ) (h : ∀ (a : β) (i : Nat) (x : α), xs[i]? = some x → F (a, (i : Int)) = some (.inl (g a x, ((i + 1 : Nat) : Int)))) (hend : ∀ a, F (a, (xs.length : Int)) = (e a).map .inr) : loopO F (a0, (0 : Int)) = e (xs.foldl g a0) := by
  have key : ∀ k i (a : β), i + k = xs.length → loopO F (a, (i : Int)) = e ((xs.drop i).foldl g a) := by
    intro k
    induction k with
    | zero =>
      intro i a hi
      have : i = xs.length := by omega
      subst this
      rw [loopO_eq, hend, List.drop_length, List.foldl_nil]
      cases e a <;> rfl
    | succ k ih =>
      intro i a hi
      have hlt : i < xs.length := by omega
      rw [loopO_eq, h a i _ (List.getElem?_eq_getElem hlt), List.drop_eq_getElem_cons hlt, List.foldl_cons]
      exact ih (i + 1) _ (by omega)
  have := key xs.length 0 a0 (by omega)
  simpa using this
section
variable {κ ν : Type} [DecidableEq κ]
theorem mfind_none {k : κ} : ∀ {m : List (κ × ν)} {i : Nat}, mfind k m i = none → ∀ j, mfind k m j = none
  | [], _, _, _ => rfl
  | e :: m, i, h, j => by
    unfold mfind at h ⊢
    split at h
    · cases h
    · rename_i hk; rw [if_neg hk]; exact mfind_none h (j + 1)
theorem mget_cons (k : κ) (e : κ × ν) (m : List (κ × ν)) (z : ν) : mget k (e :: m) z = if k = e.1 then e.2 else mget k m z := by
  by_cases hk : k = e.1
  · rw [if_pos hk]
    unfold mget mfind
    rw [if_pos hk]
  · rw [if_neg hk]
    unfold mget
    have h0 : mfind k (e :: m) 0 = mfind k m (0 + 1) := by rw [mfind, if_neg hk]
    rw [h0]
    have key : ∀ (m : List (κ × ν)) i j, (mfind k m i).map (·.2) = (mfind k m j).map (·.2) := by
      intro m
      induction m with
      | nil => intro i j; rfl
      | cons e m ih =>
        intro i j
        unfold mfind
        split
        · rfl
        · exact ih _ _
    have := key m (0 + 1) 0
    cases h1 : mfind k m (0 + 1) <;> cases h2 : mfind k m 0 <;> rw [h1, h2] at this <;> simp_all
theorem mget_append (k k' : κ) (v : ν) (z : ν) : ∀ (m : List (κ × ν)), mfind k' m 0 = none → mget k (m ++ [(k', v)]) z = if k = k' then v else mget k m z
  | [], _ => by rw [List.nil_append, mget_cons]
  | e :: m, h => by
    have h' : k' ≠ e.1 ∧ mfind k' m 0 = none := by
      unfold mfind at h
      split at h
      · cases h
      · rename_i hk; exact ⟨hk, mfind_none h 0⟩
    rw [List.cons_append, mget_cons, mget_append k k' v z m h'.2, mget_cons]
    by_cases h1 : k = e.1
    · rw [if_pos h1, if_pos h1, if_neg (fun (h2 : k = k') => h'.1 (h2 ▸ h1))]
    · rw [if_neg h1, if_neg h1]
theorem mget_setAt (k k' : κ) (v : ν) (z : ν) : ∀ (m : List (κ × ν)) (n i : Nat) (x : ν), mfind k' m n = some (n + i, x) → mget k (m.set i (k', v)) z = if k = k' then v else mget k m z
  | [], _, _, _, h => by cases h
  | e :: m, n, i, x, h => by
    unfold mfind at h
    split at h
    · rename_i hk
      simp only [Option.some.injEq, Prod.mk.injEq] at h
      have : i = 0 := by omega
      subst this
      rw [List.set_cons_zero, mget_cons, mget_cons, hk]
      by_cases h1 : k = e.1
      · rw [if_pos h1, if_pos h1]
      · rw [if_neg h1, if_neg h1, if_neg h1]
    · rename_i hk
      have hi := (mfind_get h).1
      simp only [] at hi
      obtain ⟨i', rfl⟩ : ∃ i', i = i' + 1 := ⟨i - 1, by omega⟩
      rw [List.set_cons_succ, mget_cons, mget_setAt k k' v z m (n + 1) i' x (by rw [h]; congr 2; omega), mget_cons]
      by_cases h1 : k = e.1
      · rw [if_pos h1, if_pos h1, if_neg (fun (h2 : k = k') => hk (h2 ▸ h1))]
      · rw [if_neg h1, if_neg h1]
theorem mget_mset (k k' : κ) (v z : ν) (m : List (κ × ν)) : mget k (mset k' v m) z = if k = k' then v else mget k m z := by
  unfold mset
  cases h : mfind k' m 0 with
  | none => exact mget_append k k' v z m h
  | some x =>
    obtain ⟨i, y⟩ := x
    exact mget_setAt k k' v z m 0 i y (by rw [h, Nat.zero_add])
/-- What has been set under keys of a list. -/
theorem mget_keys {α : Type} (p : α → Bool) (f : α → κ) (xs : List α) (k : κ) : mget k (xs.foldl (fun m x => bif p x then mset (f x) true m else m) []) false = xs.any fun x => p x && decide (f x = k) := by
  have key : ∀ (xs : List α) (m : List (κ × Bool)), mget k (xs.foldl (fun m x => bif p x then mset (f x) true m else m) m) false = (mget k m false || xs.any fun x => p x && decide (f x = k)) := by
    intro xs
    induction xs with
    | nil => intro m; simp
    | cons x xs ih =>
      intro m
      rw [List.foldl_cons, ih, List.any_cons]
      cases hp : p x with
      | false => simp
      | true =>
        rw [cond_true, mget_mset]
        by_cases hk : k = f x
        · rw [if_pos hk]; simp [hk]
        · rw [if_neg hk]
          have : decide (f x = k) = false := decide_eq_false (fun h => hk h.symm)
          simp [this]
  rw [key]
  rfl
end
theorem firstO_any {ρ : Type} (n : Nat) (p : Nat → Bool) (r : ρ) (e : Option ρ) : firstO n (fun i => bif p i then some r else none) e = bif (List.range n).any p then some r else e := by
  rcases first_cases n (fun i => bif p i then some r else none) with h | ⟨i, r', hi, hj, hr⟩
  · rw [firstO_none h]
    have : (List.range n).any p = false := by
      rw [List.any_eq_false]
      intro x hx
      have := h x (List.mem_range.1 hx)
      cases hp : p x <;> simp_all
    rw [this]; rfl
  · rw [firstO_some hi hj hr]
    have hp : p i = true := by cases hp : p i <;> simp_all
    have : (List.range n).any p = true := List.any_eq_true.2 ⟨i, List.mem_range.2 hi, hp⟩
    rw [this]
    simp_all
theorem firstO_all (n : Nat) (p : Nat → Bool) (e : Bool) : firstO n (fun i => bif p i then none else some false) (some e) = some ((List.range n).all p && e) := by
  have : (fun i => bif p i then (none : Option Bool) else some false) = fun i => bif !p i then some false else none := by funext i; cases p i <;> rfl
  rw [this, firstO_any]
  have : ((List.range n).any fun i => !p i) = !((List.range n).all p) := by rw [List.not_all_eq_any_not]
  rw [this]
  cases (List.range n).all p <;> rfl
theorem firstO_is {ρ : Type} (n : Nat) (b : Nat → Option ρ) {e : Option ρ} (h : ∃ r, e = some r) : ∃ r, firstO n b e = some r := by
  unfold firstO
  split
  · exact ⟨_, rfl⟩
  · exact h
theorem firstO_congr {ρ : Type} {n : Nat} {b b' : Nat → Option ρ} {e e' : Option ρ} (h : ∀ i, i < n → b i = b' i) (he : (∀ i, i < n → b i = none) → e = e') : firstO n b e = firstO n b' e' := by
  rcases first_cases n b with h1 | ⟨i, r, hi, hj, hr⟩
  · rw [firstO_none h1, firstO_none (fun i hi => by rw [← h i hi]; exact h1 i hi)]; exact he h1
  · rw [firstO_some hi hj hr, firstO_some hi (fun j hl => by rw [← h j (by omega)]; exact hj j hl) (by rw [← h i hi]; exact hr)]
theorem cond_some {α : Type} (b : Bool) (x y : α) : (bif b then some x else some y) = some (bif b then x else y) := by cases b <;> rfl
theorem range_any_take {α : Type} (xs : List α) (g : α → Bool) : ∀ i, ((List.range i).any fun j => (xs[j]?).any g) = (xs.take i).any g
  | 0 => by simp
  | i + 1 => by
    rw [List.range_succ, List.any_append, range_any_take xs g i, List.take_add_one, List.any_append, List.any_cons, List.any_nil, Bool.or_false]
    cases xs[i]? <;> simp [Option.any]
theorem foldl_take {α β : Type} (g : β → α → β) (a : β) {xs : List α} {i : Nat} {x : α} (h : xs[i]? = some x) : (xs.take (i + 1)).foldl g a = g ((xs.take i).foldl g a) x := by
  rw [List.take_add_one, List.foldl_append, h]; rfl
theorem byteAt_ok {s : ByteArray} {i : Nat} (h : i < s.size) : byteAt s (i : Int) = some ((byteAt s (i : Int)).getD 0) := by
  unfold byteAt
  rw [if_pos (by omega), Int.toNat_natCast, getElem?_pos s i h]
  rfl
theorem loopO_elim {σ ρ : Type} (F : σ → Option (σ ⊕ ρ)) (s : σ) : loopO F s = (F s).bind (Sum.elim (loopO F) some) := by
  rw [loopO_eq]
  congr 1
  funext x
  cases x <;> rfl
theorem firstO_step {σ ρ : Type} (n : Nat) (b : Nat → Option ρ) (s : σ) (k : σ → Option ρ) : ((firstO n (fun i => (b i).map Sum.inr) (some (.inl s))).bind (Sum.elim k some)) = firstO n b (k s) := by
  rcases first_cases n b with h | ⟨i, r, hi, hj, hr⟩
  · rw [firstO_none h, firstO_none (fun i hi => by rw [h i hi]; rfl)]; rfl
  · rw [firstO_some hi hj hr, firstO_some (r := .inr r) hi (fun j hl => by rw [hj j hl]; rfl) (by rw [hr]; rfl)]; rfl
theorem mget_counts {κ : Type} [DecidableEq κ] (xs : List κ) (k : κ) : mget k (xs.foldl (fun m x => mset x (w64 (mget x m 0 + 1)) m) []) 0 = xs.foldl (fun a x => bif decide (x = k) then w64 (a + 1) else a) (0 : Int) := by
  have key : ∀ (xs : List κ) (m : List (κ × Int)), mget k (xs.foldl (fun m x => mset x (w64 (mget x m 0 + 1)) m) m) 0 = xs.foldl (fun a x => bif decide (x = k) then w64 (a + 1) else a) (mget k m 0) := by
    intro xs
    induction xs with
    | nil => intro m; rfl
    | cons x xs ih =>
      intro m
      rw [List.foldl_cons, ih, List.foldl_cons, mget_mset]
      by_cases hk : x = k
      · subst hk; simp
      · rw [if_neg (fun h => hk h.symm)]; simp [hk]
  rw [key]
  rfl
theorem firstO_mem {ρ : Type} {n : Nat} {b : Nat → Option ρ} {e : Option ρ} {r : ρ} (h : firstO n b e = some r) : (∃ i, i < n ∧ b i = some r) ∨ ((∀ i, i < n → b i = none) ∧ e = some r) := by
  rcases first_cases n b with h1 | ⟨i, r', hi, hj, hr⟩
  · rw [firstO_none h1] at h; exact .inr ⟨h1, h⟩
  · rw [firstO_some hi hj hr] at h; exact .inl ⟨i, hi, hr.trans h⟩
theorem bif_some {α : Type} {b : Bool} {x y : α} (h : (bif b then some x else none) = some y) : b = true ∧ x = y := by
  cases b
  · cases h
  · exact ⟨rfl, by simpa using h⟩
theorem bif_none {α : Type} {b : Bool} {x : α} (h : (bif b then some x else none) = none) : b = false := by
  cases b
  · rfl
  · cases h
theorem firstO_elim {σ ρ : Type} (n : Nat) (b : Nat → Option ρ) (s : σ) : firstO n (fun i => (b i).map Sum.inr) (some (.inl s)) = some ((firstO n b none).elim (.inl s) .inr) := by
  rcases first_cases n b with h | ⟨i, r, hi, hj, hr⟩
  · rw [firstO_none h, firstO_none (fun i hi => by rw [h i hi]; rfl)]; rfl
  · rw [firstO_some hi hj hr, firstO_some (r := .inr r) hi (fun j hl => by rw [hj j hl]; rfl) (by rw [hr]; rfl)]; rfl
theorem firstO_no {ρ : Type} {n : Nat} {b : Nat → Option ρ} {e : Option ρ} (h : firstO n b e = none) : ∀ i, i < n → b i = none := by
  rcases first_cases n b with h1 | ⟨i, r, hi, hj, hr⟩
  · exact h1
  · rw [firstO_some hi hj hr] at h; cases h
/-- Two loops that do the same. -/
theorem loop_twin {σ ρ : Type} {F F' : σ → Option (σ ⊕ ρ)} (n : Nat) (Inv : Nat → σ → Prop) (s0 : σ) (h0 : Inv 0 s0) (h : ∀ i s, i < n → Inv i s → F s = F' s ∧ ((∃ s', F' s = some (.inl s') ∧ Inv (i + 1) s') ∨ ∃ r, F' s = some (.inr r))) (hend : ∀ s, Inv n s → F s = F' s ∧ ∃ r, F' s = some (.inr r)) : ∃ r, loopO F s0 = some r ∧ loopO F' s0 = some r := by
  have key : ∀ k i s, i + k = n → Inv i s → ∃ r, loopO F s = some r ∧ loopO F' s = some r := by
    intro k
    induction k with
    | zero =>
      intro i s hi hs
      have : i = n := by omega
      subst this
      obtain ⟨h1, r, h2⟩ := hend s hs
      exact ⟨r, by rw [loopO_eq, h1, h2]; rfl, by rw [loopO_eq, h2]; rfl⟩
    | succ k ih =>
      intro i s hi hs
      obtain ⟨h1, h2⟩ := h i s (by omega) hs
      rcases h2 with ⟨s', h2, h3⟩ | ⟨r, h2⟩
      · obtain ⟨r, h4, h5⟩ := ih (i + 1) s' (by omega) h3
        exact ⟨r, by rw [loopO_eq, h1, h2]; exact h4, by rw [loopO_eq, h2]; exact h5⟩
      · exact ⟨r, by rw [loopO_eq, h1, h2]; rfl, by rw [loopO_eq, h2]; rfl⟩
  exact key n 0 s0 (by omega) h0
/-- Is a byte one of a name's? -/
def nameByte (c : Int) : Bool := ((decide (c ≥ (97:Int)) && decide (c ≤ (122:Int))) || (decide (c ≥ (48:Int)) && decide (c ≤ (57:Int)))) || (c == (95:Int))
def namedB (s : ByteArray) : Bool := ((List.range s.size).all fun i => nameByte ((byteAt s (i : Int)).getD 0)) && (decide ((s.size : Int) ≥ (1:Int)) && decide ((s.size : Int) ≤ (20:Int)))
theorem l11name_eq {s : ByteArray} (h : s.size ≤ 9223372036854775807) : f329 s = some (namedB s) := by
  unfold f329
  refine (loop_find s.size (fun i => (i : Int)) (fun i => bif nameByte ((byteAt s (i : Int)).getD 0) then none else some false) (some (decide ((s.size : Int) ≥ (1:Int)) && decide ((s.size : Int) ≤ (20:Int)))) (fun i hi _ => ?_) (fun _ => ?_)).trans (firstO_all _ _ _)
  · unfold f329_L1
    have hb := byteAt_ok hi
    generalize (byteAt s (i : Int)).getD 0 = c at hb ⊢
    simp only [lt_t hi, cond_true, hb, Option.bind_some, w64_nat (show i < 9223372036854775807 by omega)]
    show (bif !(nameByte c) then _ else _) = _
    cases nameByte c <;> rfl
  · unfold f329_L1
    simp only [lt_f, cond_false]
theorem named_eq {s : ByteArray} (h : s.size ≤ 9223372036854775807) : f335 s = some (namedB s) := by
  unfold f335
  have h1 : (decide ((s.size : Int) ≥ (1:Int)) && decide ((s.size : Int) ≤ (20:Int))) = !(decide ((s.size : Int) < (1:Int)) || decide ((s.size : Int) > (20:Int))) := by
    rw [Bool.eq_iff_iff]; simp
  unfold namedB
  rw [h1]
  cases decide ((s.size : Int) < (1:Int)) || decide ((s.size : Int) > (20:Int)) with
  | true => simp
  | false =>
    rw [cond_false]
    refine (loop_find s.size (fun i => (i : Int)) (fun i => bif nameByte ((byteAt s (i : Int)).getD 0) then none else some false) (some true) (fun i hi _ => ?_) (fun _ => ?_)).trans (firstO_all _ _ _)
    · unfold f335_L1
      have hb := byteAt_ok hi
      generalize (byteAt s (i : Int)).getD 0 = c at hb ⊢
      simp only [lt_t hi, cond_true, hb, Option.bind_some, w64_nat (show i < 9223372036854775807 by omega)]
      show (bif !(nameByte c) then _ else _) = _
      cases nameByte c <;> rfl
    · unfold f335_L1
      simp only [lt_f, cond_false]
def okP (p : Piece) : Bool := ((((((namedB p.Name && decide (p.Len ≥ (1:Int))) && decide (p.Len ≤ (10000000:Int))) && decide (p.Speed ≥ (1:Int))) && decide (p.Speed ≤ (10000:Int))) && decide (p.Brake ≥ (1:Int))) && decide (p.Brake ≤ (1000:Int)))
def badP (n : Net) (i : Nat) : Bool := (n.Pieces[i]?).any fun p => !okP p || (n.Pieces.take i).any fun q => decide (q.Name = p.Name)
def okE (n : Net) (e : End) : Bool := (decide (e.Piece ≥ (0:Int)) && decide (e.Piece < (n.Pieces.length : Int))) && (decide (e.Side ≥ (0:Int)) && decide (e.Side ≤ (1:Int)))
def bad3 (n : Net) (c : Joint) : Bool := (decide (c.Kind < (1:Int)) || decide (c.Kind > (4:Int))) || ((c.Ends.length : Int) != c.Kind) || c.Ends.any fun e => !okE n e
def bad4 (n : Net) (i : Nat) (c : Joint) : Bool := bif decide (c.Kind ≤ (2:Int)) then !decide (c.Name = ({ data := #[] } : ByteArray)) else !namedB c.Name || (n.Joints.take i).any fun d => decide (d.Name = c.Name)
def endsOf (n : Net) : List End := n.Joints.flatMap (·.Ends)
def usesOf (n : Net) (e : End) : Int := (endsOf n).foldl (fun a x => bif decide (x = e) then w64 (a + 1) else a) 0
def bad5 (n : Net) (i : Nat) : Bool := (usesOf n ⟨(i : Int), 0⟩ != 1) || (usesOf n ⟨(i : Int), 1⟩ != 1)
def netO (n : Net) : Option Fault :=
  bif ((((n.Pieces.length : Int) == (0:Int)) || decide ((n.Pieces.length : Int) > (100:Int))) || decide ((n.Joints.length : Int) > (120:Int))) then some ⟨1, 0⟩ else
  firstO n.Pieces.length (fun i => bif badP n i then some ⟨2, (i : Int)⟩ else none) <|
  firstO n.Joints.length (fun i => bif (n.Joints[i]?).any (bad3 n) then some ⟨3, (i : Int)⟩ else none) <|
  firstO n.Joints.length (fun i => bif (n.Joints[i]?).any (bad4 n i) then some ⟨4, (i : Int)⟩ else none) <|
  firstO n.Pieces.length (fun i => bif bad5 n i then some ⟨5, (i : Int)⟩ else none) (some ⟨0, 0⟩)
theorem netO_is (n : Net) : ∃ r, netO n = some r := by
  unfold netO
  cases ((((n.Pieces.length : Int) == (0:Int)) || decide ((n.Pieces.length : Int) > (100:Int))) || decide ((n.Joints.length : Int) > (120:Int))) with
  | true => exact ⟨_, rfl⟩
  | false => exact firstO_is _ _ (firstO_is _ _ (firstO_is _ _ (firstO_is _ _ ⟨_, rfl⟩)))
theorem in_eq (x a b : Int) : f330 x a b = some (decide (x ≥ a) && decide (x ≤ b)) := rfl
theorem w64_i {n : Nat} (h : n ≤ 1048576) (i : Nat) (hi : i < n) : w64 ((i : Int) + 1) = ((i + 1 : Nat) : Int) := w64_nat (by omega)
/-- What the rules ask of the pieces, as the reference says it. -/
theorem spec_piece {x : Net} (hx : fitNet x) (hs : smNet x) {i : Nat} (hi : i < x.Pieces.length) : f284_L1 x (i : Int) = some ((bif badP x i then some (⟨2, (i : Int)⟩ : Fault) else none).elim (.inl (((i + 1 : Nat) : Int))) .inr) := by
  have hl := hs.1.1
  obtain ⟨p, hp⟩ : ∃ p, x.Pieces[i]? = some p := ⟨_, List.getElem?_eq_getElem hi⟩
  have hf := hx.1.2 p (List.mem_of_getElem? hp)
  have hL : loopO (f284_L2 x (i : Int) p) (0 : Int) = some (bif (x.Pieces.take i).any fun q => decide (q.Name = p.Name) then .inr ⟨2, (i : Int)⟩ else .inl ((i + 1 : Nat) : Int)) := by
    refine (loop_find i (fun j => (j : Int)) (fun j => bif (x.Pieces[j]?).any (fun q => decide (q.Name = p.Name)) then some (.inr ⟨2, (i : Int)⟩) else none) (some (.inl ((i + 1 : Nat) : Int))) (fun j hj _ => ?_) (fun _ => ?_)).trans ?_
    · unfold f284_L2
      have hjl : j < x.Pieces.length := by omega
      simp only [lt_t hj, cond_true, getI_nat, List.getElem?_eq_getElem hjl, Option.bind_some, str_eq, w64_nat (show j < 9223372036854775807 by omega), Option.any_some]
      cases decide (x.Pieces[j].Name = p.Name) <;> rfl
    · unfold f284_L2
      simp only [lt_f, cond_false, w64_nat (show i < 9223372036854775807 by omega)]
    · rw [firstO_any, range_any_take, cond_some]
  unfold f284_L1
  simp only [lt_t hi, cond_true, getI_nat, hp, Option.bind_some, l11name_eq hf.1, in_eq, cond_some, hL]
  have hb : badP x i = (!okP p || (x.Pieces.take i).any fun q => decide (q.Name = p.Name)) := by unfold badP; rw [hp]; rfl
  rw [hb]
  unfold okP
  cases namedB p.Name <;> cases decide (p.Len ≥ (1:Int)) <;> cases decide (p.Len ≤ (10000000:Int)) <;> cases decide (p.Speed ≥ (1:Int)) <;> cases decide (p.Speed ≤ (10000:Int)) <;> cases decide (p.Brake ≥ (1:Int)) <;> cases decide (p.Brake ≤ (1000:Int)) <;> cases ((x.Pieces.take i).any fun q => decide (q.Name = p.Name)) <;> rfl
def namesOf (x : Net) (i : Nat) : List (ByteArray × Bool) := (x.Pieces.take i).foldl (fun m p => bif true then mset p.Name true m else m) []
theorem impl_piece {x : Net} (hx : fitNet x) (hs : smNet x) {i : Nat} (hi : i < x.Pieces.length) : f288_L1 x (namesOf x i, (i : Int)) = some ((bif badP x i then some (⟨2, (i : Int)⟩ : Fault) else none).elim (.inl ((namesOf x (i + 1), ((i + 1 : Nat) : Int)))) .inr) := by
  have hl := hs.1.1
  obtain ⟨p, hp⟩ : ∃ p, x.Pieces[i]? = some p := ⟨_, List.getElem?_eq_getElem hi⟩
  have hf := hx.1.2 p (List.mem_of_getElem? hp)
  have hm : mget p.Name (namesOf x i) false = (x.Pieces.take i).any fun q => decide (q.Name = p.Name) := by
    unfold namesOf
    rw [mget_keys (fun _ => true) (fun q : Piece => q.Name)]
    rfl
  have hn : namesOf x (i + 1) = mset p.Name true (namesOf x i) := foldl_take _ _ hp
  have hb : badP x i = (!okP p || (x.Pieces.take i).any fun q => decide (q.Name = p.Name)) := by unfold badP; rw [hp]; rfl
  have ho : f334 p = some (okP p) := by
    unfold f334
    rw [named_eq hf.1]; rfl
  unfold f288_L1
  simp only [lt_t hi, cond_true, getI_nat, hp, Option.bind_some, ho, hm, hb, hn, w64_nat (show i < 9223372036854775807 by omega)]
  cases okP p <;> cases ((x.Pieces.take i).any fun q => decide (q.Name = p.Name)) <;> rfl
theorem end_eq {x : Net} (hs : smNet x) (e : End) : f352 x e = some (okE x e) := by
  have h1 := hs.1.1
  unfold f352
  simp only [in_eq, Option.bind_some, cond_some]
  rw [le_pred (by omega)]
  unfold okE
  cases decide (e.Piece ≥ (0:Int)) <;> cases decide (e.Piece < (x.Pieces.length : Int)) <;> rfl
theorem lt3 (k : Int) : decide (k < (3:Int)) = decide (k ≤ (2:Int)) := by congr 1; apply propext; omega
theorem spec_joint {x : Net} (hx : fitNet x) (hs : smNet x) {i : Nat} {c : Joint} (hc : x.Joints[i]? = some c) : f331 x (i : Int) = some (bif bad3 x c then 3 else bif bad4 x i c then 4 else 0) := by
  have hi := get_lt hc
  have hl := hs.2.1
  have hm := List.mem_of_getElem? hc
  have hf := hx.2.2 c hm
  have hel : c.Ends.length ≤ 1048576 := (hs.2.2 c hm).1
  have hL2 : loopO (f331_L2 x (i : Int) c) (0 : Int) = some (bif (x.Joints.take i).any fun q => decide (q.Name = c.Name) then 4 else 0) := by
    refine (loop_find i (fun j => (j : Int)) (fun j => bif (x.Joints[j]?).any (fun q => decide (q.Name = c.Name)) then some 4 else none) (some 0) (fun j hj _ => ?_) (fun _ => ?_)).trans ?_
    · unfold f331_L2
      have hjl : j < x.Joints.length := by omega
      simp only [lt_t hj, cond_true, getI_nat, List.getElem?_eq_getElem hjl, Option.bind_some, str_eq, w64_nat (show j < 9223372036854775807 by omega), Option.any_some]
      cases decide (x.Joints[j].Name = c.Name) <;> rfl
    · unfold f331_L2
      simp only [lt_f, cond_false]
    · rw [firstO_any, range_any_take, cond_some]
  have hL1 : loopO (f331_L1 x (i : Int) c) (0 : Int) = some (bif c.Ends.any (fun e => !okE x e) then 3 else bif bad4 x i c then 4 else 0) := by
    refine (loop_find c.Ends.length (fun j => (j : Int)) (fun j => bif (c.Ends[j]?).any (fun e => !okE x e) then some 3 else none) (some (bif bad4 x i c then 4 else 0)) (fun j hj _ => ?_) (fun _ => ?_)).trans ?_
    · unfold f331_L1
      simp only [lt_t hj, cond_true, getI_nat, List.getElem?_eq_getElem hj, Option.bind_some, end_eq hs, w64_nat (show j < 9223372036854775807 by omega), Option.any_some]
      cases okE x c.Ends[j] <;> rfl
    · unfold f331_L1
      simp only [lt_f, cond_false, l11name_eq hf.2.1, hL2, Option.bind_some, str_eq, lt3, cond_some]
      unfold bad4
      cases decide (c.Kind ≤ (2:Int)) <;> cases decide (c.Name = ({ data := #[] } : ByteArray)) <;> cases namedB c.Name <;> cases ((x.Joints.take i).any fun d => decide (d.Name = c.Name)) <;> rfl
    · rw [firstO_any, range_any_take, List.take_length, cond_some]
  unfold f331
  simp only [getI_nat, hc, Option.bind_some, in_eq, hL1, cond_some]
  have hk : (!(decide (c.Kind ≥ (1:Int)) && decide (c.Kind ≤ (4:Int)))) = (decide (c.Kind < (1:Int)) || decide (c.Kind > (4:Int))) := by
    rw [Bool.eq_iff_iff]; simp
  rw [hk]
  unfold bad3
  cases (decide (c.Kind < (1:Int)) || decide (c.Kind > (4:Int))) <;> cases ((c.Ends.length : Int) != c.Kind) <;> cases (c.Ends.any fun e => !okE x e) <;> rfl
theorem end_is (a b : End) : ((a.Piece == b.Piece) && ((a.Side == b.Side) && true)) = decide (a = b) := by
  cases a; cases b
  rw [Bool.eq_iff_iff]
  simp
theorem spec_uses {x : Net} (hs : smNet x) (e : End) : f332 x e = some (usesOf x e) := by
  have hl := hs.2.1
  unfold f332
  refine (loop_fold x.Joints (fun a (c : Joint) => c.Ends.foldl (fun a x => bif decide (x = e) then w64 (a + 1) else a) a) 0 some (fun a i c hc => ?_) (fun a => ?_)).trans ?_
  · have hi := get_lt hc
    have hel : c.Ends.length ≤ 1048576 := (hs.2.2 c (List.mem_of_getElem? hc)).1
    unfold f332_L1
    simp only [lt_t hi, cond_true, getI_nat, hc, Option.bind_some]
    refine (loop_fold c.Ends (fun a x => bif decide (x = e) then w64 (a + 1) else a) a (fun a => (some (.inl (a, ((i + 1 : Nat) : Int))) : Option ((Int × Int) ⊕ Int))) (fun b j y hy => ?_) (fun b => ?_))
    · have hj := get_lt hy
      unfold f332_L2 f332_k3
      simp only [lt_t hj, cond_true, getI_nat, hy, Option.bind_some, end_is, w64_nat (show j < 9223372036854775807 by omega)]
      cases decide (y = e) <;> rfl
    · unfold f332_L2
      simp only [lt_f, cond_false, w64_nat (show i < 9223372036854775807 by omega)]
  · unfold f332_L1
    simp only [lt_f, cond_false]
  · unfold usesOf endsOf
    rw [List.foldl_flatMap]
theorem lt2 {i : Nat} (h : i < 2) : decide ((i : Int) < (2:Int)) = true := by rw [decide_eq_true_eq]; omega
/-- The ends, as the reference counts them. -/
theorem spec_ends {x : Net} (hs : smNet x) : loopO (f284_L5 x) (0 : Int) = firstO x.Pieces.length (fun i => bif bad5 x i then some ⟨5, (i : Int)⟩ else none) (some ⟨0, 0⟩) := by
  have hl := hs.1.1
  refine loop_find x.Pieces.length (fun i => (i : Int)) _ _ (fun i hi _ => ?_) (fun _ => ?_)
  · unfold f284_L5
    simp only [lt_t hi, cond_true]
    refine (loop_find 2 (fun s => (s : Int)) (fun s => bif usesOf x ⟨(i : Int), (s : Int)⟩ != 1 then some (.inr ⟨5, (i : Int)⟩) else none) (some (.inl ((i + 1 : Nat) : Int))) (fun s hs2 _ => ?_) (fun _ => ?_)).trans ?_
    · unfold f284_L6
      simp only [lt2 hs2, cond_true, spec_uses hs, Option.bind_some, w64_nat (show s < 9223372036854775807 by omega)]
      cases (usesOf x ⟨(i : Int), (s : Int)⟩ != 1) <;> rfl
    · unfold f284_L6
      have : decide (((2 : Nat) : Int) < (2:Int)) = false := by decide
      simp only [this, cond_false, w64_nat (show i < 9223372036854775807 by omega)]
    · rw [firstO_any]
      unfold bad5
      have : ((List.range 2).any fun s : Nat => usesOf x ⟨(i : Int), (s : Int)⟩ != 1) = ((usesOf x ⟨(i : Int), 0⟩ != 1) || (usesOf x ⟨(i : Int), 1⟩ != 1)) := by
        simp [List.range_succ]
      rw [this]
      cases ((usesOf x ⟨(i : Int), 0⟩ != 1) || (usesOf x ⟨(i : Int), 1⟩ != 1)) <;> rfl
  · unfold f284_L5
    simp only [lt_f, cond_false]
theorem spec_code {x : Net} (hx : fitNet x) (hs : smNet x) (k : Nat) (hk : k < 100) : loopO (f284_L4 x (k : Int)) (0 : Int) = firstO x.Joints.length (fun i => (bif (x.Joints[i]?).any (fun c => (bif bad3 x c then 3 else bif bad4 x i c then 4 else 0) == (k : Int)) then some (⟨(k : Int), (i : Int)⟩ : Fault) else none).map Sum.inr) (some (.inl ((k + 1 : Nat) : Int))) := by
  have hl := hs.2.1
  refine loop_find x.Joints.length (fun i => (i : Int)) _ _ (fun i hi _ => ?_) (fun _ => ?_)
  · unfold f284_L4
    simp only [lt_t hi, cond_true, spec_joint hx hs (List.getElem?_eq_getElem hi), List.getElem?_eq_getElem hi, Option.any_some, Option.bind_some, w64_nat (show i < 9223372036854775807 by omega)]
    cases ((bif bad3 x x.Joints[i] then 3 else bif bad4 x i x.Joints[i] then 4 else 0) == (k : Int)) <;> rfl
  · unfold f284_L4
    simp only [lt_f, cond_false, w64_nat (show k < 9223372036854775807 by omega)]
theorem spec_net {x : Net} (hx : fitNet x) (hs : smNet x) : f284 x = netO x := by
  have hl := hs.1.1
  unfold f284 netO
  cases ((((x.Pieces.length : Int) == (0:Int)) || decide ((x.Pieces.length : Int) > (100:Int))) || decide ((x.Joints.length : Int) > (120:Int))) with
  | true => rfl
  | false =>
    rw [cond_false, cond_false]
    refine loop_find x.Pieces.length (fun i => (i : Int)) _ _ (fun i hi _ => spec_piece hx hs hi) (fun _ => ?_)
    unfold f284_L1
    simp only [lt_f, cond_false]
    congr 1
    rw [loopO_elim]
    have e3 : f284_L3 x (3:Int) = loopO (f284_L4 x ((3 : Nat) : Int)) 0 := rfl
    have e4 : f284_L3 x (4:Int) = loopO (f284_L4 x ((4 : Nat) : Int)) 0 := rfl
    have e5 : f284_L3 x (5:Int) = (loopO (f284_L5 x) 0).map Sum.inr := rfl
    rw [e3, spec_code hx hs 3 (by decide), firstO_step]
    show firstO _ _ (loopO _ (4 : Int)) = _
    rw [loopO_elim, e4, spec_code hx hs 4 (by decide), firstO_step]
    show firstO _ _ (firstO _ _ (loopO _ (5 : Int))) = _
    rw [loopO_elim, e5, spec_ends hs]
    refine firstO_congr (fun i hi => ?_) (fun h3 => ?_)
    · simp only [List.getElem?_eq_getElem hi, Option.any_some]
      cases bad3 x x.Joints[i] <;> cases bad4 x i x.Joints[i] <;> rfl
    · refine firstO_congr (fun i hi => ?_) (fun _ => ?_)
      · have := h3 i hi
        simp only [List.getElem?_eq_getElem hi, Option.any_some] at this ⊢
        revert this
        cases bad3 x x.Joints[i] <;> cases bad4 x i x.Joints[i] <;> simp
      · obtain ⟨r, hr⟩ := firstO_is x.Pieces.length (fun i => bif bad5 x i then some (⟨5, (i : Int)⟩ : Fault) else none) (e := some ⟨0, 0⟩) ⟨_, rfl⟩
        rw [hr]; rfl
def jnamesOf (x : Net) (i : Nat) : List (ByteArray × Bool) := (x.Joints.take i).foldl (fun m c => bif !decide (c.Kind ≤ (2:Int)) then mset c.Name true m else m) []
theorem named_empty : namedB ({ data := #[] } : ByteArray) = false := by decide
theorem impl_joint3 {x : Net} (hs : smNet x) {i : Nat} (hi : i < x.Joints.length) : f288_L2 x (i : Int) = some ((bif (x.Joints[i]?).any (bad3 x) then some (⟨3, (i : Int)⟩ : Fault) else none).elim (.inl ((i + 1 : Nat) : Int)) .inr) := by
  have hl := hs.2.1
  obtain ⟨c, hc⟩ : ∃ c, x.Joints[i]? = some c := ⟨_, List.getElem?_eq_getElem hi⟩
  have hel : c.Ends.length ≤ 1048576 := (hs.2.2 c (List.mem_of_getElem? hc)).1
  have hL : loopO (f288_L3 x (i : Int) c) (0 : Int) = some (bif c.Ends.any (fun e => !okE x e) then .inr ⟨3, (i : Int)⟩ else .inl ((i + 1 : Nat) : Int)) := by
    refine (loop_find c.Ends.length (fun j => (j : Int)) (fun j => bif (c.Ends[j]?).any (fun e => !okE x e) then some (.inr ⟨3, (i : Int)⟩) else none) (some (.inl ((i + 1 : Nat) : Int))) (fun j hj _ => ?_) (fun _ => ?_)).trans ?_
    · unfold f288_L3
      have hb : (((decide (c.Ends[j].Piece < (0:Int)) || decide (c.Ends[j].Piece ≥ (x.Pieces.length : Int))) || decide (c.Ends[j].Side < (0:Int))) || decide (c.Ends[j].Side > (1:Int))) = !okE x c.Ends[j] := by
        unfold okE
        rw [Bool.eq_iff_iff]; simp; omega
      simp only [lt_t hj, cond_true, getI_nat, List.getElem?_eq_getElem hj, Option.bind_some, hb, w64_nat (show j < 9223372036854775807 by omega), Option.any_some]
      cases okE x c.Ends[j] <;> rfl
    · unfold f288_L3
      simp only [lt_f, cond_false, w64_nat (show i < 9223372036854775807 by omega)]
    · rw [firstO_any, range_any_take, List.take_length, cond_some]
  unfold f288_L2
  simp only [lt_t hi, cond_true, getI_nat, hc, Option.bind_some, hL, Option.any_some]
  unfold bad3
  cases (decide (c.Kind < (1:Int)) || decide (c.Kind > (4:Int))) <;> cases ((c.Ends.length : Int) != c.Kind) <;> cases (c.Ends.any fun e => !okE x e) <;> rfl
theorem impl_joint4 {x : Net} (hx : fitNet x) (hs : smNet x) {i : Nat} (hi : i < x.Joints.length) (hb : ∀ j, j < i → (bif (x.Joints[j]?).any (bad4 x j) then some (⟨4, (j : Int)⟩ : Fault) else none) = none) : f288_L4 x (jnamesOf x i, (i : Int)) = some ((bif (x.Joints[i]?).any (bad4 x i) then some (⟨4, (i : Int)⟩ : Fault) else none).elim (.inl (jnamesOf x (i + 1), ((i + 1 : Nat) : Int))) .inr) := by
  have hl := hs.2.1
  obtain ⟨c, hc⟩ : ∃ c, x.Joints[i]? = some c := ⟨_, List.getElem?_eq_getElem hi⟩
  have hf := hx.2.2 c (List.mem_of_getElem? hc)
  have hn : jnamesOf x (i + 1) = bif !decide (c.Kind ≤ (2:Int)) then mset c.Name true (jnamesOf x i) else jnamesOf x i := foldl_take _ _ hc
  have hm : mget c.Name (jnamesOf x i) false = (x.Joints.take i).any fun d => (!decide (d.Kind ≤ (2:Int))) && decide (d.Name = c.Name) := by
    unfold jnamesOf
    rw [mget_keys (fun d : Joint => !decide (d.Kind ≤ (2:Int))) (fun d : Joint => d.Name)]
  have ha : namedB c.Name = true → ((x.Joints.take i).any fun d => (!decide (d.Kind ≤ (2:Int))) && decide (d.Name = c.Name)) = (x.Joints.take i).any fun d => decide (d.Name = c.Name) := by
    intro hn
    rw [← range_any_take, ← range_any_take, Bool.eq_iff_iff, List.any_eq_true, List.any_eq_true]
    constructor
    · rintro ⟨j, hj, h⟩
      refine ⟨j, hj, ?_⟩
      cases hd : x.Joints[j]? with
      | none => rw [hd] at h; cases h
      | some d => rw [hd] at h; simp only [Option.any_some, Bool.and_eq_true] at h ⊢; exact h.2
    · rintro ⟨j, hj, h⟩
      refine ⟨j, hj, ?_⟩
      have hbj := hb j (List.mem_range.1 hj)
      cases hd : x.Joints[j]? with
      | none => rw [hd] at h; cases h
      | some d =>
        rw [hd] at h hbj
        simp only [Option.any_some, Bool.and_eq_true] at h hbj ⊢
        refine ⟨?_, h⟩
        cases hk : decide (d.Kind ≤ (2:Int)) with
        | false => rfl
        | true =>
          exfalso
          unfold bad4 at hbj
          rw [hk, cond_true] at hbj
          simp only [decide_eq_true_eq] at h
          rw [h] at hbj
          cases he : decide (c.Name = ({ data := #[] } : ByteArray)) with
          | false => rw [he] at hbj; simp at hbj
          | true =>
            simp only [decide_eq_true_eq] at he
            rw [he, named_empty] at hn
            cases hn
  unfold f288_L4 f288_k5
  simp only [lt_t hi, cond_true, getI_nat, hc, Option.bind_some, named_eq hf.2.1, hm, Option.any_some, str_eq, w64_nat (show i < 9223372036854775807 by omega), hn]
  unfold bad4
  cases decide (c.Kind ≤ (2:Int)) with
  | true => cases decide (c.Name = ({ data := #[] } : ByteArray)) <;> rfl
  | false =>
    cases hn : namedB c.Name with
    | false => rfl
    | true =>
      rw [ha hn]
      cases ((x.Joints.take i).any fun d => decide (d.Name = c.Name)) <;> rfl
def countsOf (x : Net) : List (End × Int) := (endsOf x).foldl (fun m e => mset e (w64 (mget e m 0 + 1)) m) []
theorem impl_ends {x : Net} (hs : smNet x) : loopO (f288_L6 x) (([] : List (End × Int)), (0:Int)) = firstO x.Pieces.length (fun i => bif bad5 x i then some ⟨5, (i : Int)⟩ else none) (some ⟨0, 0⟩) := by
  have hl := hs.2.1
  have hp := hs.1.1
  refine (loop_fold x.Joints (fun m (c : Joint) => c.Ends.foldl (fun m e => mset e (w64 (mget e m 0 + 1)) m) m) [] (fun m => loopO (f288_L8 x m) (0:Int)) (fun a i c hc => ?_) (fun a => ?_)).trans ?_
  · have hi := get_lt hc
    have hel : c.Ends.length ≤ 1048576 := (hs.2.2 c (List.mem_of_getElem? hc)).1
    unfold f288_L6
    simp only [lt_t hi, cond_true, getI_nat, hc, Option.bind_some]
    refine (loop_fold c.Ends (fun m e => mset e (w64 (mget e m 0 + 1)) m) a (fun a => (some (.inl (a, ((i + 1 : Nat) : Int))) : Option ((List (End × Int) × Int) ⊕ Fault))) (fun b j y hy => ?_) (fun b => ?_))
    · have hj := get_lt hy
      unfold f288_L7
      simp only [lt_t hj, cond_true, getI_nat, hy, Option.bind_some, w64_nat (show j < 9223372036854775807 by omega)]
    · unfold f288_L7
      simp only [lt_f, cond_false, w64_nat (show i < 9223372036854775807 by omega)]
  · unfold f288_L6
    simp only [lt_f, cond_false]
  · have he : x.Joints.foldl (fun m (c : Joint) => c.Ends.foldl (fun m e => mset e (w64 (mget e m 0 + 1)) m) m) [] = countsOf x := by
      unfold countsOf endsOf
      rw [List.foldl_flatMap]
    have hu : ∀ e, mget e (countsOf x) 0 = usesOf x e := fun e => mget_counts _ _
    rw [he]
    refine loop_find x.Pieces.length (fun i => (i : Int)) _ _ (fun i hi _ => ?_) (fun _ => ?_)
    · unfold f288_L8
      simp only [lt_t hi, cond_true, hu, w64_nat (show i < 9223372036854775807 by omega)]
      unfold bad5
      cases ((usesOf x ⟨(i : Int), 0⟩ != 1) || (usesOf x ⟨(i : Int), 1⟩ != 1)) <;> rfl
    · unfold f288_L8
      simp only [lt_f, cond_false]
theorem impl_net {x : Net} (hx : fitNet x) (hs : smNet x) : f288 x = netO x := by
  have hl := hs.1.1
  have hl2 := hs.2.1
  unfold f288 netO
  cases ((((x.Pieces.length : Int) == (0:Int)) || decide ((x.Pieces.length : Int) > (100:Int))) || decide ((x.Joints.length : Int) > (120:Int))) with
  | true => rfl
  | false =>
    rw [cond_false, cond_false]
    refine loop_find x.Pieces.length (fun i => (namesOf x i, (i : Int))) _ _ (fun i hi _ => impl_piece hx hs hi) (fun _ => ?_)
    unfold f288_L1
    simp only [lt_f, cond_false]
    congr 1
    refine loop_find x.Joints.length (fun i => (i : Int)) _ _ (fun i hi _ => impl_joint3 hs hi) (fun _ => ?_)
    unfold f288_L2
    simp only [lt_f, cond_false]
    congr 1
    refine loop_find x.Joints.length (fun i => (jnamesOf x i, (i : Int))) _ _ (fun i hi hb => impl_joint4 hx hs hi hb) (fun _ => ?_)
    unfold f288_L4
    simp only [lt_f, cond_false]
    congr 1
    exact impl_ends hs
theorem netO_code {x : Net} {r : Fault} (h : netO x = some r) : ((r.Code == 0) && ((r.At == 0) && true)) = (r.Code == 0) := by
  have key : r = ⟨0, 0⟩ ∨ (r.Code == 0) = false := by
    unfold netO at h
    cases hc : ((((x.Pieces.length : Int) == (0:Int)) || decide ((x.Pieces.length : Int) > (100:Int))) || decide ((x.Joints.length : Int) > (120:Int))) with
    | true => rw [hc] at h; simp only [cond_true, Option.some.injEq] at h; subst h; exact .inr rfl
    | false =>
      rw [hc, cond_false] at h
      rcases firstO_mem h with ⟨i, _, hi⟩ | ⟨_, h⟩
      · rw [← (bif_some hi).2]; exact .inr rfl
      rcases firstO_mem h with ⟨i, _, hi⟩ | ⟨_, h⟩
      · rw [← (bif_some hi).2]; exact .inr rfl
      rcases firstO_mem h with ⟨i, _, hi⟩ | ⟨_, h⟩
      · rw [← (bif_some hi).2]; exact .inr rfl
      rcases firstO_mem h with ⟨i, _, hi⟩ | ⟨_, h⟩
      · rw [← (bif_some hi).2]; exact .inr rfl
      exact .inl (by simpa using h.symm)
  rcases key with rfl | h
  · rfl
  · rw [h]; rfl
/-- Is a net right? -/
def goodNet (x : Net) : Bool := (netO x).any fun r => r.Code == 0
/-- What a right net is. -/
structure NetFacts (x : Net) : Prop where
  pos : 0 < x.Pieces.length
  le : x.Pieces.length ≤ 100
  jle : x.Joints.length ≤ 120
  p : ∀ i, i < x.Pieces.length → badP x i = false
  j3 : ∀ i, i < x.Joints.length → (x.Joints[i]?).any (bad3 x) = false
  j4 : ∀ i, i < x.Joints.length → (x.Joints[i]?).any (bad4 x i) = false
  e : ∀ i, i < x.Pieces.length → bad5 x i = false
theorem good_facts {x : Net} (h : goodNet x = true) : NetFacts x := by
  obtain ⟨r, hr⟩ := netO_is x
  unfold goodNet at h
  rw [hr] at h
  simp only [Option.any_some, beq_iff_eq] at h
  have h2 := hr
  unfold netO at h2
  cases hc : ((((x.Pieces.length : Int) == (0:Int)) || decide ((x.Pieces.length : Int) > (100:Int))) || decide ((x.Joints.length : Int) > (120:Int))) with
  | true => rw [hc] at h2; simp only [cond_true, Option.some.injEq] at h2; subst h2; cases h
  | false =>
    rw [hc, cond_false] at h2
    rcases firstO_mem h2 with ⟨i, _, hi⟩ | ⟨h3, h2⟩
    · rw [← (bif_some hi).2] at h; cases h
    rcases firstO_mem h2 with ⟨i, _, hi⟩ | ⟨h4, h2⟩
    · rw [← (bif_some hi).2] at h; cases h
    rcases firstO_mem h2 with ⟨i, _, hi⟩ | ⟨h5, h2⟩
    · rw [← (bif_some hi).2] at h; cases h
    rcases firstO_mem h2 with ⟨i, _, hi⟩ | ⟨h6, h2⟩
    · rw [← (bif_some hi).2] at h; cases h
    simp only [Bool.or_eq_false_iff, beq_eq_false_iff_ne, decide_eq_false_iff_not] at hc
    exact ⟨by omega, by omega, by omega, fun i hi => bif_none (h3 i hi), fun i hi => bif_none (h4 i hi), fun i hi => bif_none (h5 i hi), fun i hi => bif_none (h6 i hi)⟩
theorem good_piece {x : Net} (h : goodNet x = true) {i : Nat} {p : Piece} (hp : x.Pieces[i]? = some p) : okP p = true := by
  have := (good_facts h).p i (get_lt hp)
  unfold badP at this
  rw [hp] at this
  simp only [Option.any_some, Bool.or_eq_false_iff, Bool.not_eq_false'] at this
  exact this.1
theorem good_eq {x : Net} (hx : fitNet x) (hs : smNet x) : f199 x = some (goodNet x) := by
  obtain ⟨r, hr⟩ := netO_is x
  unfold f199 goodNet
  rw [impl_net hx hs, hr, Option.bind_some, netO_code hr]; rfl
theorem l22ok_eq {x : Net} (hx : fitNet x) (hs : smNet x) : f195 x = some (goodNet x) := by
  obtain ⟨r, hr⟩ := netO_is x
  unfold f195 goodNet
  rw [spec_net hx hs, hr]; rfl
theorem in22_eq (x a b : Int) : f221 x a b = some (decide (x ≥ a) && decide (x ≤ b)) := rfl
theorem within_eq (x a b : Int) : f171 x a b = some (decide (x ≥ a) && decide (x ≤ b)) := rfl
theorem nat_of {p : Int} {n : Nat} (h0 : 0 ≤ p) (h1 : p < (n : Int)) : ∃ k : Nat, p = (k : Int) ∧ k < n := ⟨p.toNat, by omega, by omega⟩
/-- A number of a piece, or none. -/
theorem piece_cases {n : Net} (hg : goodNet n = true) (q : Int) : (decide (q ≥ (0:Int)) && decide (q < (n.Pieces.length : Int))) = false ∨ ∃ (k : Nat) (p : Piece), q = (k : Int) ∧ n.Pieces[k]? = some p ∧ 1 ≤ p.Len ∧ p.Len ≤ 10000000 ∧ (decide (q ≥ (0:Int)) && decide (q < (n.Pieces.length : Int))) = true := by
  cases h : (decide (q ≥ (0:Int)) && decide (q < (n.Pieces.length : Int))) with
  | false => exact .inl rfl
  | true =>
    simp only [Bool.and_eq_true, decide_eq_true_eq] at h
    obtain ⟨k, hk, hl⟩ := nat_of h.1 h.2
    have hp := List.getElem?_eq_getElem hl
    have ho := good_piece hg hp
    unfold okP at ho
    simp only [Bool.and_eq_true, decide_eq_true_eq] at ho
    exact .inr ⟨k, _, hk, hp, ho.1.1.1.1.1.2, ho.1.1.1.1.2, rfl⟩
/-! ### Where an end is -/
def endsAt (n : Net) (j : Nat) : List End := ((n.Joints[j]?).map (·.Ends)).getD []
def atIn (n : Net) (e : End) (j : Nat) : Option (Int × Int) := firstO (endsAt n j).length (fun k => bif ((endsAt n j)[k]?).any (fun x => decide (x = e)) then some ((j : Int), (k : Int)) else none) none
def atO (n : Net) (e : End) : Option (Int × Int) := firstO n.Joints.length (atIn n e) (some (-1, -1))
theorem endsAt_some {n : Net} {j : Nat} {c : Joint} (hc : n.Joints[j]? = some c) : endsAt n j = c.Ends := by unfold endsAt; rw [hc]; rfl
theorem spec_at {n : Net} (hs : smNet n) (e : End) : f306 n e = atO n e := by
  have hl := hs.2.1
  unfold f306
  refine loop_find n.Joints.length (fun j => (j : Int)) _ _ (fun j hj _ => ?_) (fun _ => ?_)
  · have hc := List.getElem?_eq_getElem hj
    have hel : n.Joints[j].Ends.length ≤ 1048576 := (hs.2.2 _ (List.mem_of_getElem? hc)).1
    unfold f306_L1
    simp only [lt_t hj, cond_true, getI_nat, hc, Option.bind_some]
    unfold atIn
    rw [endsAt_some hc, ← firstO_elim]
    refine loop_find n.Joints[j].Ends.length (fun k => (k : Int)) _ _ (fun k hk _ => ?_) (fun _ => ?_)
    · unfold f306_L2
      simp only [lt_t hk, cond_true, getI_nat, List.getElem?_eq_getElem hk, Option.bind_some, end_is, Option.any_some, w64_nat (show k < 9223372036854775807 by omega)]
      cases decide (n.Joints[j].Ends[k] = e) <;> rfl
    · unfold f306_L2
      simp only [lt_f, cond_false, w64_nat (show j < 9223372036854775807 by omega)]
  · unfold f306_L1
    simp only [lt_f, cond_false]
theorem end_si (a b : End) : ((b.Piece == a.Piece) && ((b.Side == a.Side) && true)) = decide (a = b) := by
  rw [end_is, Bool.eq_iff_iff]
  simp only [decide_eq_true_eq]
  exact eq_comm
theorem impl_at {n : Net} (hs : smNet n) (e : End) : f336 n e = atO n e := by
  have hl := hs.2.1
  unfold f336
  refine loop_find n.Joints.length (fun j => (j : Int)) _ _ (fun j hj _ => ?_) (fun _ => ?_)
  · have hc := List.getElem?_eq_getElem hj
    have hel : n.Joints[j].Ends.length ≤ 1048576 := (hs.2.2 _ (List.mem_of_getElem? hc)).1
    unfold f336_L1
    simp only [lt_t hj, cond_true, getI_nat, hc, Option.bind_some]
    unfold atIn
    rw [endsAt_some hc, ← firstO_elim]
    refine loop_find n.Joints[j].Ends.length (fun k => (k : Int)) _ _ (fun k hk _ => ?_) (fun _ => ?_)
    · unfold f336_L2
      simp only [lt_t hk, cond_true, getI_nat, List.getElem?_eq_getElem hk, Option.bind_some, end_si, Option.any_some, w64_nat (show k < 9223372036854775807 by omega)]
      cases decide (n.Joints[j].Ends[k] = e) <;> rfl
    · unfold f336_L2
      simp only [lt_f, cond_false, w64_nat (show j < 9223372036854775807 by omega)]
  · unfold f336_L1
    simp only [lt_f, cond_false]
theorem uses_zero {e : End} : ∀ (xs : List End) (a : Int), (∀ x ∈ xs, x ≠ e) → xs.foldl (fun a x => bif decide (x = e) then w64 (a + 1) else a) a = a
  | [], _, _ => rfl
  | x :: xs, a, h => by
    rw [List.foldl_cons, decide_eq_false (h x (List.mem_cons_self ..)), cond_false]
    exact uses_zero xs a (fun y hy => h y (List.mem_cons_of_mem _ hy))
/-- The end of a piece. -/
def sideE (k : Nat) (b : Bool) : End := ⟨(k : Int), if b then 1 else 0⟩
theorem good_end {n : Net} (hg : goodNet n = true) {k : Nat} (hk : k < n.Pieces.length) (b : Bool) : sideE k b ∈ endsOf n := by
  have h5 := (good_facts hg).e k hk
  unfold bad5 at h5
  simp only [Bool.or_eq_false_iff, bne_eq_false_iff_eq] at h5
  have hu : usesOf n (sideE k b) = 1 := by cases b; exact h5.1; exact h5.2
  refine Classical.byContradiction fun hn => ?_
  have := uses_zero (e := sideE k b) (endsOf n) 0 (fun x hx e => hn (e ▸ hx))
  unfold usesOf at hu
  rw [this] at hu
  cases hu
/-- Every end is somewhere. -/
theorem at_good {n : Net} (hg : goodNet n = true) {k : Nat} (hk : k < n.Pieces.length) (b : Bool) : ∃ (j m : Nat) (c : Joint), atO n (sideE k b) = some ((j : Int), (m : Int)) ∧ n.Joints[j]? = some c ∧ c.Ends[m]? = some (sideE k b) := by
  obtain ⟨r, hr⟩ : ∃ r, atO n (sideE k b) = some r := firstO_is _ _ ⟨_, rfl⟩
  rcases firstO_mem hr with ⟨j, hj, h⟩ | ⟨h, _⟩
  · obtain ⟨c, hc⟩ : ∃ c, n.Joints[j]? = some c := ⟨_, List.getElem?_eq_getElem hj⟩
    unfold atIn at h
    rw [endsAt_some hc] at h
    rcases firstO_mem h with ⟨m, hm, h⟩ | ⟨_, h⟩
    · obtain ⟨h1, h2⟩ := bif_some h
      refine ⟨j, m, c, by rw [hr, ← h2], hc, ?_⟩
      rw [List.getElem?_eq_getElem hm] at h1 ⊢
      simp only [Option.any_some, decide_eq_true_eq] at h1
      rw [h1]
    · cases h
  · exfalso
    have hm := good_end hg hk b
    unfold endsOf at hm
    obtain ⟨c, hc, he⟩ := List.mem_flatMap.1 hm
    obtain ⟨j, hj, hcj⟩ := List.getElem_of_mem hc
    obtain ⟨m, hm, hem⟩ := List.getElem_of_mem he
    have hc2 : n.Joints[j]? = some c := by rw [List.getElem?_eq_getElem hj, hcj]
    have h1 := h j hj
    unfold atIn at h1
    rw [endsAt_some hc2] at h1
    have h2 := firstO_no h1 m hm
    have h3 := bif_none h2
    rw [List.getElem?_eq_getElem hm, hem] at h3
    simp at h3
/-! ### What is across a joint -/
theorem joint_ok {n : Net} (hg : goodNet n = true) {j : Nat} {c : Joint} (hc : n.Joints[j]? = some c) : (1 ≤ c.Kind ∧ c.Kind ≤ 4) ∧ (c.Ends.length : Int) = c.Kind ∧ ∀ e ∈ c.Ends, okE n e = true := by
  have h := (good_facts hg).j3 j (get_lt hc)
  rw [hc, Option.any_some] at h
  unfold bad3 at h
  simp only [Bool.or_eq_false_iff, decide_eq_false_iff_not, bne_eq_false_iff_eq, List.any_eq_false, Bool.not_eq_true', Bool.not_eq_false] at h
  exact ⟨by omega, h.1.2, h.2⟩
def endD (c : Joint) (i : Nat) : End := c.Ends.getD i ⟨0, 0⟩
def acrossL (c : Joint) (k : Nat) : List End :=
  if c.Kind = 2 then [endD c (1 - k)] else if c.Kind = 3 then (if k = 0 then [endD c 1, endD c 2] else [endD c 0]) else if c.Kind = 4 then [endD c ([1, 0, 3, 2].getD k 0)] else []
def howL (c : Joint) (k : Nat) : List Int :=
  if c.Kind = 2 then [0] else if c.Kind = 3 then (if k = 0 then [1, 2] else [(k : Int)]) else if c.Kind = 4 then [0] else []
/-- A joint of a right net, by its kind. -/
theorem joint_forms {c : Joint} (h : (1 ≤ c.Kind ∧ c.Kind ≤ 4) ∧ (c.Ends.length : Int) = c.Kind) : (∃ a b, c = ⟨1, a, [b]⟩) ∨ (∃ a b d, c = ⟨2, a, [b, d]⟩) ∨ (∃ a b d e, c = ⟨3, a, [b, d, e]⟩) ∨ ∃ a b d e f, c = ⟨4, a, [b, d, e, f]⟩ := by
  obtain ⟨K, N, E⟩ := c
  simp only [] at h
  match E, h with
  | [], ⟨h1, h2⟩ => simp only [List.length_nil] at h2; omega
  | [b], ⟨h1, h2⟩ => simp only [List.length_cons, List.length_nil] at h2; have : K = 1 := by omega
                     subst this; exact .inl ⟨N, b, rfl⟩
  | [b, d], ⟨h1, h2⟩ => simp only [List.length_cons, List.length_nil] at h2; have : K = 2 := by omega
                        subst this; exact .inr (.inl ⟨N, b, d, rfl⟩)
  | [b, d, e], ⟨h1, h2⟩ => simp only [List.length_cons, List.length_nil] at h2; have : K = 3 := by omega
                           subst this; exact .inr (.inr (.inl ⟨N, b, d, e, rfl⟩))
  | [b, d, e, f], ⟨h1, h2⟩ => simp only [List.length_cons, List.length_nil] at h2; have : K = 4 := by omega
                              subst this; exact .inr (.inr (.inr ⟨N, b, d, e, f, rfl⟩))
  | b :: d :: e :: f :: g :: r, ⟨h1, h2⟩ => simp only [List.length_cons] at h2; omega
theorem across_eq {c : Joint} (h : (1 ≤ c.Kind ∧ c.Kind ≤ 4) ∧ (c.Ends.length : Int) = c.Kind) {k : Nat} (hk : k < c.Ends.length) : f307 c (k : Int) = some (acrossL c k) := by
  rcases joint_forms h with ⟨a, b, rfl⟩ | ⟨a, b, d, rfl⟩ | ⟨a, b, d, e, rfl⟩ | ⟨a, b, d, e, f, rfl⟩
  · rfl
  · match k, hk with
    | 0, _ => rfl
    | 1, _ => rfl
  · match k, hk with
    | 0, _ => rfl
    | 1, _ => rfl
    | 2, _ => rfl
  · match k, hk with
    | 0, _ => rfl
    | 1, _ => rfl
    | 2, _ => rfl
    | 3, _ => rfl
theorem over_eq {n : Net} (hs : smNet n) (hg : goodNet n = true) {e : End} {j k : Nat} {c : Joint} (ha : atO n e = some ((j : Int), (k : Int))) (hc : n.Joints[j]? = some c) (hk : k < c.Ends.length) : f290 n e = some (acrossL c k, howL c k) := by
  have h := joint_ok hg hc
  unfold f290
  rw [impl_at hs, ha]
  have hj : decide (((j : Nat) : Int) < (0:Int)) = false := by rw [decide_eq_false_iff_not]; omega
  simp only [Option.bind_some, hj, cond_false, getI_nat, hc]
  rcases joint_forms ⟨h.1, h.2.1⟩ with ⟨a, b, rfl⟩ | ⟨a, b, d, rfl⟩ | ⟨a, b, d, e, rfl⟩ | ⟨a, b, d, e, f, rfl⟩
  · rfl
  · match k, hk with
    | 0, _ => rfl
    | 1, _ => rfl
  · match k, hk with
    | 0, _ => rfl
    | 1, _ => rfl
    | 2, _ => rfl
  · match k, hk with
    | 0, _ => rfl
    | 1, _ => rfl
    | 2, _ => rfl
    | 3, _ => rfl
theorem across_len (c : Joint) (k : Nat) : (acrossL c k).length ≤ 2 := by
  unfold acrossL
  split
  · simp
  · split
    · split <;> simp
    · split <;> simp
/-- What lies behind an end, and how switches must lie for it. -/
def overL (n : Net) (e : End) : List End := match atO n e with | some (j, k) => (match n.Joints[j.toNat]? with | some c => acrossL c k.toNat | none => []) | none => []
def overH (n : Net) (e : End) : List Int := match atO n e with | some (j, k) => (match n.Joints[j.toNat]? with | some c => howL c k.toNat | none => []) | none => []
theorem overL_is {n : Net} {e : End} {j k : Nat} {c : Joint} (ha : atO n e = some ((j : Int), (k : Int))) (hc : n.Joints[j]? = some c) : overL n e = acrossL c k ∧ overH n e = howL c k := by
  unfold overL overH
  rw [ha]
  simp only [Int.toNat_natCast, hc, and_self]
theorem overL_len (n : Net) (e : End) : (overL n e).length ≤ 2 := by
  unfold overL
  split
  · split
    · exact across_len _ _
    · simp
  · simp
def lookE (p w : Int) : End := bif w == 1 then ⟨p, 1⟩ else ⟨p, 0⟩
theorem head_eq (p w : Int) : f224 p w = some (lookE p w) := by
  unfold f224 lookE
  cases w == 1 <;> rfl
theorem looked_eq (p w : Int) : f337 p w = some (lookE p w) := by
  unfold f337 lookE
  cases w == 1 <;> rfl
theorem look_side (k : Nat) (w : Int) : lookE (k : Int) w = sideE k (w == 1) := by
  unfold lookE sideE
  cases w == 1 <;> rfl
theorem at_look {n : Net} (hg : goodNet n = true) {k : Nat} (hk : k < n.Pieces.length) (w : Int) : ∃ (j m : Nat) (c : Joint), atO n (lookE (k : Int) w) = some ((j : Int), (m : Int)) ∧ n.Joints[j]? = some c ∧ c.Ends[m]? = some (lookE (k : Int) w) := by
  rw [look_side]; exact at_good hg hk _
theorem over_good {n : Net} (hs : smNet n) (hg : goodNet n = true) {k : Nat} (hk : k < n.Pieces.length) (w : Int) : f290 n (lookE (k : Int) w) = some (overL n (lookE (k : Int) w), overH n (lookE (k : Int) w)) := by
  obtain ⟨j, m, c, ha, hc, hm⟩ := at_look hg hk w
  rw [over_eq hs hg ha hc (get_lt hm), (overL_is ha hc).1, (overL_is ha hc).2]
theorem joined_eq {n : Net} (hs : smNet n) (hg : goodNet n = true) {a b : Step} {k : Nat} (hak : a.Piece = (k : Int)) (hk : k < n.Pieces.length) : f285 n a b = some ((overL n (lookE a.Piece a.Way)).any fun y => decide (y = lookE b.Piece (w64 (0 - b.Way)))) := by
  obtain ⟨j, m, c, ha, hc, hm⟩ := at_look hg hk a.Way
  have ho := joint_ok hg hc
  have hl := across_len c m
  unfold f285
  rw [hak]
  simp only [head_eq, spec_at hs, ha, Option.bind_some, getI_nat, hc, across_eq ⟨ho.1, ho.2.1⟩ (get_lt hm)]
  rw [(overL_is ha hc).1]
  refine loop_any (acrossL c m) _ (fun i y hy => ?_) ?_
  · have hi := get_lt hy
    unfold f285_L1
    simp only [lt_t hi, cond_true, getI_nat, hy, Option.bind_some, end_is, w64_nat (show i < 9223372036854775807 by omega)]
    cases decide (y = lookE b.Piece (w64 (0 - b.Way))) <;> rfl
  · unfold f285_L1
    simp only [lt_f, cond_false, Option.map_some]
theorem containsE {xs : List End} (hl : xs.length ≤ 1048576) (v : End) : f292 xs v = some (xs.any fun y => decide (y = v)) := by
  unfold f292 f338
  have h1 : loopO (f338_L1 xs v) (0 : Int) = firstO xs.length (fun i => bif (xs[i]?).any (fun y => decide (y = v)) then some (i : Int) else none) (some (-1)) := by
    refine loop_find xs.length (fun i => (i : Int)) _ _ (fun i hi _ => ?_) (fun _ => ?_)
    · unfold f338_L1
      simp only [lt_t hi, cond_true, getI_nat, List.getElem?_eq_getElem hi, Option.bind_some, end_si, Option.any_some, w64_nat (show i < 9223372036854775807 by omega)]
      cases decide (xs[i] = v) <;> rfl
    · unfold f338_L1
      simp only [lt_f, cond_false]
  rw [h1]
  obtain ⟨r, hr⟩ := firstO_is xs.length (fun i => bif (xs[i]?).any (fun y => decide (y = v)) then some (i : Int) else none) (e := some (-1)) ⟨_, rfl⟩
  rw [hr, Option.bind_some]
  have ht := range_any_take xs (fun y => decide (y = v)) xs.length
  rw [List.take_length] at ht
  rw [← ht]
  rcases firstO_mem hr with ⟨i, hi, h⟩ | ⟨h, h2⟩
  · obtain ⟨h3, rfl⟩ := bif_some h
    congr 1
    rw [Bool.eq_iff_iff, decide_eq_true_eq, List.any_eq_true]
    exact ⟨fun _ => ⟨i, List.mem_range.2 hi, h3⟩, fun _ => by omega⟩
  · have : r = -1 := by simpa using h2.symm
    subst this
    congr 1
    rw [Bool.eq_iff_iff, decide_eq_true_eq, List.any_eq_true]
    constructor
    · intro h; omega
    · rintro ⟨i, hi, h3⟩
      have := bif_none (h i (List.mem_range.1 hi))
      rw [h3] at this; cases this
/-! ### Trains -/
def wayB (w : Int) : Bool := (w == (1:Int)) || (w == (-1:Int))
def spotB (n : Net) (s : Spot) : Bool := ((decide (s.Piece ≥ (0:Int)) && decide (s.Piece < (n.Pieces.length : Int))) && wayB s.Way) && (n.Pieces[s.Piece.toNat]?).any fun p => decide (s.At ≥ (0:Int)) && decide (s.At ≤ p.Len)
theorem spec_spot {n : Net} (hg : goodNet n = true) (s : Spot) : f220 n s = some (spotB n s) := by
  have hn := (good_facts hg).le
  unfold f220 spotB
  simp only [in22_eq, Option.bind_some, cond_some, le_pred (y := s.Piece) (n := (n.Pieces.length : Int)) (by omega)]
  rw [show ((s.Way == (1:Int)) || (s.Way == (-1:Int))) = wayB s.Way from rfl]
  rcases piece_cases hg s.Piece with h | ⟨k, p, hk, hp, h1, h2, h⟩
  · rw [h]; rfl
  · rw [h, hk]
    simp only [getI_nat, hp, Option.bind_some, Int.toNat_natCast, Option.any_some]
    cases wayB s.Way <;> rfl
theorem impl_spot {n : Net} (hg : goodNet n = true) (s : Spot) : f226 n s = some (spotB n s) := by
  have hn := (good_facts hg).le
  unfold f226 spotB
  simp only [within_eq, Option.bind_some, cond_some, le_pred (y := s.Piece) (n := (n.Pieces.length : Int)) (by omega)]
  rcases piece_cases hg s.Piece with h | ⟨k, p, hk, hp, h1, h2, h⟩
  · rw [h]; rfl
  · rw [h, hk]
    simp only [getI_nat, hp, Option.bind_some, Int.toNat_natCast, Option.any_some, cond_true]
    rw [show ((s.Way == (1:Int)) || (s.Way == (-1:Int))) = wayB s.Way from rfl]
    cases wayB s.Way <;> simp
theorem wayB_or {w : Int} (h : wayB w = true) : w = 1 ∨ w = -1 := by
  unfold wayB at h
  simpa using h
theorem spot_facts {n : Net} (hg : goodNet n = true) {s : Spot} (h : spotB n s = true) : ∃ (k : Nat) (p : Piece), s.Piece = (k : Int) ∧ n.Pieces[k]? = some p ∧ 1 ≤ p.Len ∧ p.Len ≤ 10000000 ∧ (s.Way = 1 ∨ s.Way = -1) ∧ 0 ≤ s.At ∧ s.At ≤ p.Len := by
  unfold spotB at h
  simp only [Bool.and_eq_true] at h
  rcases piece_cases hg s.Piece with h1 | ⟨k, p, hk, hp, h1, h2, h3⟩
  · rw [Bool.and_eq_false_iff] at h1
    rcases h1 with h1 | h1
    · rw [h1] at h; exact absurd h.1.1.1 (by decide)
    · rw [h1] at h; exact absurd h.1.1.2 (by decide)
  · obtain ⟨h4, h5⟩ := h
    rw [hk, Int.toNat_natCast, hp] at h5
    simp only [Option.any_some, Bool.and_eq_true, decide_eq_true_eq] at h5
    exact ⟨k, p, hk, hp, h1, h2, wayB_or h4.2, h5.1, h5.2⟩
/-- What is behind a spot on its piece. -/
def goneF (p : Piece) (s : Spot) : Int := if s.Way = 1 then s.At else p.Len - s.At
theorem gone_eq {n : Net} {s : Spot} {k : Nat} {p : Piece} (hk : s.Piece = (k : Int)) (hp : n.Pieces[k]? = some p) (h1 : 1 ≤ p.Len) (h2 : p.Len ≤ 10000000) (h3 : 0 ≤ s.At) (h4 : s.At ≤ p.Len) : f289 n s = some (goneF p s) := by
  unfold f289 goneF
  rw [hk]
  simp only [getI_nat, hp, Option.bind_some]
  by_cases hw : s.Way = 1
  · rw [hw]; rfl
  · rw [if_neg hw, beq_eq_false_iff_ne.2 hw, cond_false, w64_id (by omega)]
theorem behind_eq {n : Net} {s : Spot} {k : Nat} {p : Piece} (hk : s.Piece = (k : Int)) (hp : n.Pieces[k]? = some p) (h1 : 1 ≤ p.Len) (h2 : p.Len ≤ 10000000) (h3 : 0 ≤ s.At) (h4 : s.At ≤ p.Len) : f222 n s = some (goneF p s) := by
  unfold f222 f305 goneF
  rw [hk]
  simp only [getI_nat, hp, Option.bind_some]
  by_cases hw : s.Way = 1
  · rw [hw]
    show some (w64 (p.Len - w64 (p.Len - s.At))) = _
    rw [w64_id (x := p.Len - s.At) (by omega), w64_id (by omega), if_pos rfl]
    congr 1; omega
  · rw [if_neg hw, beq_eq_false_iff_ne.2 hw, cond_false, Option.bind_some, w64_id (by omega)]
/-- One step of both. -/
theorem train_step {n : Net} {t : Train} (hs : smNet n) (hg : goodNet n = true) (ht : t.Back.length ≤ 200) {i : Nat} (hi : i < t.Back.length) (a b c : Int) : f196_L1 n t (a, b, c, (i : Int)) = f200_L1 n t (a, b, c, (i : Int)) ∧ ((∃ s', f200_L1 n t (a, b, c, (i : Int)) = some (.inl s') ∧ s'.2.2.2 = ((i + 1 : Nat) : Int)) ∨ ∃ r, f200_L1 n t (a, b, c, (i : Int)) = some (.inr r)) := by
  have hn := (good_facts hg).le
  obtain ⟨x, hx⟩ : ∃ x, t.Back[i]? = some x := ⟨_, List.getElem?_eq_getElem hi⟩
  unfold f196_L1 f200_L1 f291 f293 f294
  simp only [lt_t hi, cond_true, getI_nat, hx, Option.bind_some, in22_eq, within_eq, le_pred (y := x.Piece) (n := (n.Pieces.length : Int)) (by omega), looked_eq, w64_nat (show i < 9223372036854775807 by omega)]
  rcases piece_cases hg x.Piece with h | ⟨k, p, hk, hp, h1, h2, h⟩
  · rw [h]; exact ⟨rfl, .inr ⟨_, rfl⟩⟩
  · rw [h]
    have hj := joined_eq hs hg (a := x) (b := ⟨a, b⟩) hk (get_lt hp)
    have ho := over_good hs hg (get_lt hp) x.Way
    rw [← hk] at ho
    rw [hj, ho]
    simp only [Option.bind_some, containsE (Nat.le_trans (overL_len n _) (by decide)), hk, getI_nat, hp]
    cases ((x.Way != (1:Int)) && (x.Way != (-1:Int)))
    · cases decide (c ≥ t.Long)
      · cases ((overL n (lookE (k : Int) x.Way)).any fun y => decide (y = lookE a (w64 (0 - b))))
        · exact ⟨rfl, .inr ⟨_, rfl⟩⟩
        · exact ⟨rfl, .inl ⟨_, rfl, rfl⟩⟩
      · exact ⟨rfl, .inr ⟨_, rfl⟩⟩
    · exact ⟨rfl, .inr ⟨_, rfl⟩⟩
theorem train_same {n : Net} {t : Train} (hs : smNet n) (hg : goodNet n = true) : ∃ r, f196 n t = some r ∧ f200 n t = some r := by
  unfold f196 f200
  simp only [spec_spot hg, impl_spot hg, in22_eq, within_eq, Option.bind_some, cond_some]
  cases hsp : spotB n t.Front with
  | false => exact ⟨false, rfl, rfl⟩
  | true =>
    obtain ⟨k, p, hk, hp, h1, h2, _, h3, h4⟩ := spot_facts hg hsp
    rw [behind_eq hk hp h1 h2 h3 h4, gone_eq hk hp h1 h2 h3 h4]
    simp only [Option.bind_some]
    cases (bif !true then true else !(decide (t.Long ≥ (1:Int)) && decide (t.Long ≤ (100000:Int)))) with
    | true => exact ⟨false, rfl, rfl⟩
    | false =>
      cases hb : decide ((t.Back.length : Int) > (200:Int)) with
      | true => exact ⟨false, rfl, rfl⟩
      | false =>
        simp only [decide_eq_false_iff_not] at hb
        have hb2 : t.Back.length ≤ 200 := by omega
        simp only [Bool.or_false, cond_false]
        refine loop_twin t.Back.length (fun i s => s.2.2.2 = (i : Int)) _ rfl (fun i s hi hsi => ?_) (fun s hsi => ?_)
        · obtain ⟨a, b, c, d⟩ := s
          simp only [] at hsi
          subst hsi
          exact train_step hs hg hb2 hi a b c
        · obtain ⟨a, b, c, d⟩ := s
          simp only [] at hsi
          subst hsi
          unfold f196_L1 f200_L1
          simp only [lt_f, cond_false]
          exact ⟨trivial, _, rfl⟩
/-- The pieces of a train lie in the net. -/
theorem train_pieces {n : Net} {t : Train} (hs : smNet n) (hg : goodNet n = true) (h : f196 n t = some true) : t.Back.length ≤ 200 ∧ spotB n t.Front = true ∧ 1 ≤ t.Long ∧ t.Long ≤ 100000 ∧ ∀ (i : Nat) (x : Step), t.Back[i]? = some x → ∃ (k : Nat) (p : Piece), x.Piece = (k : Int) ∧ n.Pieces[k]? = some p ∧ 1 ≤ p.Len ∧ p.Len ≤ 10000000 ∧ (x.Way = 1 ∨ x.Way = -1) := by
  have hn := (good_facts hg).le
  unfold f196 at h
  simp only [spec_spot hg, in22_eq, Option.bind_some, cond_some] at h
  cases hsp : spotB n t.Front with
  | false => rw [hsp] at h; cases h
  | true =>
    rw [hsp] at h
    obtain ⟨k, p, hk, hp, h1, h2, _, h3, h4⟩ := spot_facts hg hsp
    rw [behind_eq hk hp h1 h2 h3 h4] at h
    simp only [Option.bind_some] at h
    cases hlo : (bif !true then true else !(decide (t.Long ≥ (1:Int)) && decide (t.Long ≤ (100000:Int)))) with
    | true => rw [hlo] at h; cases h
    | false =>
      rw [hlo] at h
      cases hb : decide ((t.Back.length : Int) > (200:Int)) with
      | true => rw [hb] at h; cases h
      | false =>
        rw [hb] at h
        simp only [decide_eq_false_iff_not] at hb
        simp only [Bool.not_true, cond_false, Bool.not_eq_false', Bool.and_eq_true, decide_eq_true_eq] at hlo
        simp only [Bool.or_false, cond_false] at h
        refine ⟨by omega, rfl, hlo.1, hlo.2, ?_⟩
        -- each round went on
        have key : ∀ k i a b c, i + k = t.Back.length → loopO (f196_L1 n t) (a, b, c, (i : Int)) = some true → ∀ j x, i ≤ j → t.Back[j]? = some x → ∃ (k : Nat) (p : Piece), x.Piece = (k : Int) ∧ n.Pieces[k]? = some p ∧ 1 ≤ p.Len ∧ p.Len ≤ 10000000 ∧ (x.Way = 1 ∨ x.Way = -1) := by
          intro k
          induction k with
          | zero => intro i a b c hi _ j x hj hx; have := get_lt hx; omega
          | succ k ih =>
            intro i a b c hi hr j x hj hx
            obtain ⟨y, hy⟩ : ∃ y, t.Back[i]? = some y := ⟨_, List.getElem?_eq_getElem (by omega)⟩
            rw [loopO_eq] at hr
            unfold f196_L1 at hr
            simp only [lt_t (get_lt hy), cond_true, getI_nat, hy, Option.bind_some, in22_eq, le_pred (y := y.Piece) (n := (n.Pieces.length : Int)) (by omega), w64_nat (show i < 9223372036854775807 by omega)] at hr
            rcases piece_cases hg y.Piece with hh | ⟨k2, p2, hk2, hp2, e1, e2, hh⟩
            · rw [hh] at hr; cases hr
            · rw [hh] at hr
              cases hw : ((y.Way != (1:Int)) && (y.Way != (-1:Int))) with
              | true => rw [hw] at hr; cases hr
              | false =>
                rw [hw] at hr
                have hway : y.Way = 1 ∨ y.Way = -1 := by
                  rw [Bool.and_eq_false_iff, bne_eq_false_iff_eq, bne_eq_false_iff_eq] at hw
                  exact hw
                rcases Nat.eq_or_lt_of_le hj with rfl | hlt
                · rw [hy] at hx
                  cases hx
                  exact ⟨k2, p2, hk2, hp2, e1, e2, hway⟩
                · rw [joined_eq hs hg hk2 (get_lt hp2)] at hr
                  cases hc : decide (c ≥ t.Long) with
                  | true => rw [hc] at hr; cases hr
                  | false =>
                    rw [hc] at hr
                    cases hj2 : ((overL n (lookE y.Piece y.Way)).any fun q => decide (q = lookE a (w64 (0 - b)))) with
                    | false => rw [hj2] at hr; cases hr
                    | true =>
                      rw [hj2, hk2] at hr
                      simp only [getI_nat, hp2] at hr
                      exact ih (i + 1) _ _ _ (by omega) hr j x hlt hx
        exact fun i x hx => key t.Back.length 0 _ _ _ (by omega) h i x (Nat.zero_le _) hx
/-! ### Bodies of trains -/
def lenOf (n : Net) (s : Step) : Int := ((n.Pieces[s.Piece.toNat]?).map (·.Len)).getD 0
def stepOk (n : Net) (s : Step) : Prop := ∃ (k : Nat) (p : Piece), s.Piece = (k : Int) ∧ n.Pieces[k]? = some p ∧ 1 ≤ p.Len ∧ p.Len ≤ 10000000 ∧ (s.Way = 1 ∨ s.Way = -1)
theorem stepOk_len {n : Net} {s : Step} (h : stepOk n s) : ∃ p, getI n.Pieces s.Piece = some p ∧ p.Len = lenOf n s ∧ 1 ≤ lenOf n s ∧ lenOf n s ≤ 10000000 := by
  obtain ⟨k, p, h1, h2, h3, h4, _⟩ := h
  have e : lenOf n s = p.Len := by unfold lenOf; rw [h1, Int.toNat_natCast, h2]; rfl
  exact ⟨p, by rw [h1, getI_nat, h2], e.symm, by omega, by omega⟩
/-- The pieces behind a front are just as many as are needed. -/
def backOk (n : Net) (L : Int) : Int → List Step → Prop
  | h, [] => L ≤ h
  | h, s :: r => h < L ∧ stepOk n s ∧ backOk n L (h + lenOf n s) r
theorem backOk_all {n : Net} {L : Int} : ∀ {r : List Step} {h : Int}, backOk n L h r → ∀ s ∈ r, stepOk n s
  | [], _, _, s, hs => by cases hs
  | x :: r, h, hb, s, hs => by
    rcases List.mem_cons.1 hs with rfl | hs
    · exact hb.2.1
    · exact backOk_all hb.2.2 s hs
structure TrainF (n : Net) (t : Train) where
  k : Nat
  p : Piece
  hk : t.Front.Piece = (k : Int)
  hp : n.Pieces[k]? = some p
  l1 : 1 ≤ p.Len
  l2 : p.Len ≤ 10000000
  way : t.Front.Way = 1 ∨ t.Front.Way = -1
  a1 : 0 ≤ t.Front.At
  a2 : t.Front.At ≤ p.Len
  b200 : t.Back.length ≤ 200
  g1 : 1 ≤ t.Long
  g2 : t.Long ≤ 100000
  back : backOk n t.Long (goneF p t.Front) t.Back
theorem goneF_le {p : Piece} {s : Spot} (h1 : 0 ≤ s.At) (h2 : s.At ≤ p.Len) : 0 ≤ goneF p s ∧ goneF p s ≤ p.Len := by
  unfold goneF
  split <;> omega
theorem train_facts {n : Net} {t : Train} (hs : smNet n) (hg : goodNet n = true) (h : f196 n t = some true) : Nonempty (TrainF n t) := by
  obtain ⟨h200, hsp, hl1, hl2, hps⟩ := train_pieces hs hg h
  obtain ⟨k, p, hk, hp, h1, h2, hw, h3, h4⟩ := spot_facts hg hsp
  refine ⟨⟨k, p, hk, hp, h1, h2, hw, h3, h4, h200, hl1, hl2, ?_⟩⟩
  have hgo := goneF_le h3 h4
  have hn := (good_facts hg).le
  unfold f196 at h
  simp only [spec_spot hg, in22_eq, Option.bind_some, cond_some, hsp, behind_eq hk hp h1 h2 h3 h4] at h
  have e1 : (bif !true then true else !(decide (t.Long ≥ (1:Int)) && decide (t.Long ≤ (100000:Int)))) = false := by
    simp [hl1, hl2]
  have e2 : decide ((t.Back.length : Int) > (200:Int)) = false := by simp; omega
  rw [e1, e2] at h
  simp only [Bool.or_false, cond_false] at h
  have key : ∀ (r : List Step) (i : Nat) (a b c : Int), t.Back.drop i = r → i + r.length = t.Back.length → 0 ≤ c → c ≤ 10000000 * (i + 1 : Nat) → loopO (f196_L1 n t) (a, b, c, (i : Int)) = some true → backOk n t.Long c r := by
    intro r
    induction r with
    | nil =>
      intro i a b c hr hi hc1 hc2 hl
      have : i = t.Back.length := by simpa using hi
      subst this
      rw [loopO_eq] at hl
      unfold f196_L1 at hl
      simp only [lt_f, cond_false] at hl
      have hl : (some (decide (c ≥ t.Long))) = some true := hl
      simp only [Option.some.injEq, decide_eq_true_eq] at hl
      exact hl
    | cons y r ih =>
      intro i a b c hr hi hc1 hc2 hl
      have hlt : i < t.Back.length := by simp at hi; omega
      have hy : t.Back[i]? = some y := by
        have := congrArg (fun l => l[0]?) hr
        simpa using this
      have hr2 : t.Back.drop (i + 1) = r := by
        have := congrArg List.tail hr
        simpa using this
      rw [loopO_eq] at hl
      unfold f196_L1 at hl
      simp only [lt_t hlt, cond_true, getI_nat, hy, Option.bind_some, in22_eq, le_pred (y := y.Piece) (n := (n.Pieces.length : Int)) (by omega), w64_nat (show i < 9223372036854775807 by omega)] at hl
      obtain ⟨k2, p2, hk2, hp2, e1, e2, hway⟩ := hps i y hy
      rcases piece_cases hg y.Piece with hh | ⟨_, _, _, _, _, _, hh⟩
      · rw [hh] at hl; cases hl
      rw [hh] at hl
      cases hw : ((y.Way != (1:Int)) && (y.Way != (-1:Int))) with
      | true => rw [hw] at hl; cases hl
      | false =>
        rw [hw] at hl
        rw [joined_eq hs hg hk2 (get_lt hp2)] at hl
        cases hc : decide (c ≥ t.Long) with
        | true => rw [hc] at hl; cases hl
        | false =>
          rw [hc] at hl
          cases hj2 : ((overL n (lookE y.Piece y.Way)).any fun q => decide (q = lookE a (w64 (0 - b)))) with
          | false => rw [hj2] at hl; cases hl
          | true =>
            have hso : stepOk n y := ⟨k2, p2, hk2, hp2, e1, e2, hway⟩
            obtain ⟨p3, q1, q2, q3, q4⟩ := stepOk_len hso
            rw [hj2, q1] at hl
            simp only [Bool.not_true, Bool.or_false, cond_false, Option.bind_some] at hl
            simp only [decide_eq_false_iff_not] at hc
            have hcc : c ≤ 2020000000 := by omega
            refine ⟨by omega, hso, ih (i + 1) y.Piece y.Way (c + lenOf n y) hr2 (by simp at hi; omega) (by omega) (by omega) ?_⟩
            have hl : loopO (f196_L1 n t) (y.Piece, y.Way, w64 (c + p3.Len), ((i + 1 : Nat) : Int)) = some true := hl
            rw [w64_id (by omega), q2] at hl
            exact hl
  exact key t.Back 0 _ _ _ rfl (by simp) (by omega) (by omega) h
/-- A part of a piece, by how far along it is. -/
def segP (p w along len k : Int) : Part := if w = 1 then ⟨p, along - k, along⟩ else ⟨p, len - along, len - along + k⟩
def minI (a b : Int) : Int := if b < a then b else a
theorem minI_le (a b : Int) : minI a b ≤ a ∧ minI a b ≤ b ∧ (minI a b = a ∨ minI a b = b) := by unfold minI; split <;> omega
def lyGo (n : Net) : Int → List Step → List Part
  | _, [] => []
  | left, s :: r => segP s.Piece s.Way (lenOf n s) (lenOf n s) (minI left (lenOf n s)) :: lyGo n (left - minI left (lenOf n s)) r
def lyL (n : Net) (t : Train) (p : Piece) : List Part := segP t.Front.Piece t.Front.Way (goneF p t.Front) p.Len (minI t.Long (goneF p t.Front)) :: lyGo n (t.Long - minI t.Long (goneF p t.Front)) t.Back
def full (q : Part) : Bool := decide (q.From < q.To)
theorem seg_full (p w along len k : Int) : full (segP p w along len k) = decide (0 < k) := by
  unfold full segP
  split
  · simp only []; congr 1; apply propext; omega
  · simp only []; congr 1; apply propext; omega
theorem lyGo_len (n : Net) : ∀ (r : List Step) (left : Int), (lyGo n left r).length = r.length
  | [], _ => rfl
  | s :: r, left => by simp only [lyGo, List.length_cons, lyGo_len n r]
theorem lyGo_zero {n : Net} : ∀ {r : List Step}, (∀ s ∈ r, stepOk n s) → (lyGo n 0 r).filter full = []
  | [], _ => rfl
  | s :: r, h => by
    obtain ⟨_, _, _, h3, _⟩ := stepOk_len (h s (List.mem_cons_self ..))
    have hm : minI 0 (lenOf n s) = 0 := by unfold minI; rw [if_neg (by omega)]
    unfold lyGo
    rw [hm, List.filter_cons, seg_full, decide_eq_false (by omega)]
    simp only [Bool.false_eq_true, if_false]
    rw [Int.sub_zero]
    exact lyGo_zero fun x hx => h x (List.mem_cons_of_mem _ hx)
theorem spec_part {n : Net} {p w along len k : Int} {q : Piece} (hq : getI n.Pieces p = some q) (hl : q.Len = len) (hw : w = 1 ∨ w = -1) (h1 : 0 ≤ k) (h2 : k ≤ along) (h3 : along ≤ len) (h4 : len ≤ 10000000) : f298 n p w (w64 (along - k)) along = some (segP p w along len k) := by
  unfold f298 f298_k1 segP
  rw [hq, w64_id (x := along - k) (by omega)]
  simp only [Option.bind_some]
  rcases hw with rfl | rfl
  · rfl
  · show some (⟨p, w64 (q.Len - along), w64 (q.Len - (along - k))⟩ : Part) = some (if (-1 : Int) = 1 then _ else _)
    rw [if_neg (by decide), w64_id (x := q.Len - along) (by omega), w64_id (by omega), hl]
    congr 2; omega
theorem impl_part {p w x along len k : Int} (hw : w = 1 ∨ w = -1) (hx : x = if w = 1 then along else len - along) (h1 : 0 ≤ k) (h2 : k ≤ along) (h3 : along ≤ len) (h4 : len ≤ 10000000) : f340 p x (w64 (x - w64 (k * w))) = some (segP p w along len k) := by
  unfold f340 segP
  rcases hw with rfl | rfl
  · rw [if_pos rfl] at hx ⊢
    subst hx
    rw [w64_id (x := k * 1) (by omega), w64_id (by omega), Int.mul_one]
    congr 2
    · split <;> omega
    · split <;> omega
  · rw [if_neg (show ¬ ((-1 : Int) = 1) by decide)] at hx ⊢
    subst hx
    rw [w64_id (x := k * -1) (by omega), w64_id (by omega)]
    congr 2
    · split <;> omega
    · split <;> omega
theorem drop_cons {α : Type} {xs : List α} {i : Nat} {y : α} {r : List α} (h : xs.drop i = y :: r) : i < xs.length ∧ xs[i]? = some y ∧ xs.drop (i + 1) = r := by
  have hlt : i < xs.length := by
    rcases Nat.lt_or_ge i xs.length with hl | hl
    · exact hl
    · rw [List.drop_eq_nil_of_le hl] at h; cases h
  rw [List.drop_eq_getElem_cons hlt] at h
  simp only [List.cons.injEq] at h
  exact ⟨hlt, by rw [List.getElem?_eq_getElem hlt, h.1], h.2⟩
theorem spec_body {n : Net} {t : Train} (f : TrainF n t) : f206 n t = some ((lyL n t f.p).filter full) := by
  have hgo := goneF_le f.a1 f.a2
  have hb := f.b200
  unfold f206
  rw [behind_eq f.hk f.hp f.l1 f.l2 f.a1 f.a2, Option.bind_some]
  have key : ∀ (r : List Step) (i : Nat) (p w along len left : Int) (out : List Part) (q : Piece), t.Back.drop i = r → i ≤ t.Back.length → (∀ s ∈ r, stepOk n s) → getI n.Pieces p = some q → q.Len = len → (w = 1 ∨ w = -1) → 0 ≤ along → along ≤ len → len ≤ 10000000 → 0 ≤ left → left ≤ 100000 → out.length ≤ i →
      loopO (f206_L1 n t) (p, w, out, left, along, (i : Int)) = some (out ++ (segP p w along len (minI left along) :: lyGo n (left - minI left along) r).filter full) := by
    intro r
    induction r with
    | nil =>
      intro i p w along len left out q hr hi hso hq hl hw h1 h2 h3 h4 h5 ho
      have hi' : i = t.Back.length := by
        have := List.drop_eq_nil_iff.1 hr
        omega
      subst hi'
      rw [loopO_eq]
      have hk : f206_L1 n t (p, w, out, left, along, (t.Back.length : Int)) = f206_k2 n t p w left along (t.Back.length : Int) out (minI left along) := by
        unfold f206_L1 minI
        simp only []
        by_cases hc : along > left
        · rw [decide_eq_true hc, cond_true, if_neg (by omega)]
        · rw [decide_eq_false hc, cond_false]
          by_cases hc2 : along < left
          · rw [if_pos hc2]
          · rw [if_neg hc2, show along = left by omega]
      rw [hk]
      unfold f206_k2 f206_k3
      have hm := minI_le left along
      rw [List.filter_cons, seg_full, spec_part hq hl hw (by omega) (by omega) h2 h3]
      simp only [beq_self_eq_true, Bool.or_true, cond_true, Option.bind_some]
      by_cases hpos : minI left along > 0
      · rw [decide_eq_true hpos, cond_true, appB_ok (by simp; omega)]
        simp only [Option.bind_some]
        rfl
      · rw [decide_eq_false hpos, cond_false]
        simp [lyGo]
    | cons y r ih =>
      intro i p w along len left out q hr hi hso hq hl hw h1 h2 h3 h4 h5 ho
      obtain ⟨hlt, hy, hr2⟩ := drop_cons hr
      obtain ⟨q2, g1, g2, g3, g4⟩ := stepOk_len (hso y (List.mem_cons_self ..))
      have hyw : y.Way = 1 ∨ y.Way = -1 := by obtain ⟨_, _, _, _, _, _, h⟩ := hso y (List.mem_cons_self ..); exact h
      have hm := minI_le left along
      rw [loopO_elim]
      have hk : f206_L1 n t (p, w, out, left, along, (i : Int)) = f206_k2 n t p w left along (i : Int) out (minI left along) := by
        unfold f206_L1 minI
        simp only []
        by_cases hc : along > left
        · rw [decide_eq_true hc, cond_true, if_neg (by omega)]
        · rw [decide_eq_false hc, cond_false]
          by_cases hc2 : along < left
          · rw [if_pos hc2]
          · rw [if_neg hc2, show along = left by omega]
      rw [hk]
      have hne : ((i : Int) == (t.Back.length : Int)) = false := by rw [beq_eq_false_iff_ne]; omega
      have h3k : ∀ o : List Part, o.length ≤ i + 1 → ((f206_k3 n t left (i : Int) (minI left along) o).bind (Sum.elim (loopO (f206_L1 n t)) some)) = some (o ++ (lyGo n (left - minI left along) (y :: r)).filter full) := by
        intro o hol
        unfold f206_k3
        rw [hne, Bool.or_false, w64_id (x := left - minI left along) (by omega)]
        by_cases hz : left - minI left along = 0
        · rw [hz, lyGo_zero hso, List.append_nil]; rfl
        · rw [beq_eq_false_iff_ne.2 hz, cond_false]
          simp only [getI_nat, hy, Option.bind_some, g1, w64_nat (show i < 9223372036854775807 by omega), Sum.elim_inl]
          rw [ih (i + 1) y.Piece y.Way q2.Len q2.Len (left - minI left along) o q2 hr2 hlt (fun s hs => hso s (List.mem_cons_of_mem _ hs)) g1 rfl hyw (by omega) (Int.le_refl _) (by omega) (by omega) (by omega) hol, g2]
          rfl
      unfold f206_k2
      rw [List.filter_cons, seg_full, spec_part hq hl hw (by omega) (by omega) h2 h3]
      simp only [Option.bind_some]
      by_cases hpos : minI left along > 0
      · rw [decide_eq_true hpos, cond_true, appB_ok (by simp; omega)]
        simp only [Option.bind_some, if_true]
        have := h3k (out ++ [segP p w along len (minI left along)]) (by simp; omega)
        rw [List.append_assoc] at this
        exact this
      · rw [decide_eq_false hpos, cond_false]
        simp only [Bool.false_eq_true, if_false]
        have := h3k out (by omega)
        exact this
  exact key t.Back 0 _ _ _ f.p.Len _ [] f.p rfl (Nat.zero_le _) (backOk_all f.back) (by rw [f.hk, getI_nat, f.hp]) rfl f.way hgo.1 hgo.2 f.l2 (by have := f.g1; omega) f.g2 (Nat.le_refl _)
theorem impl_lying {n : Net} {t : Train} (f : TrainF n t) : f297 n t = some (lyL n t f.p) := by
  have hgo := goneF_le f.a1 f.a2
  have hb := f.b200
  have hg1 := f.g1
  have hg2 := f.g2
  have hl2 := f.l2
  unfold f297
  rw [gone_eq f.hk f.hp f.l1 f.l2 f.a1 f.a2]
  simp only [Option.bind_some]
  have hm := minI_le t.Long (goneF f.p t.Front)
  rw [show (if goneF f.p t.Front < t.Long then goneF f.p t.Front else t.Long) = minI t.Long (goneF f.p t.Front) from rfl]
  rw [impl_part (along := goneF f.p t.Front) (len := f.p.Len) f.way (by unfold goneF; have hw := f.way; split <;> (rcases hw with hw | hw <;> simp [hw] at * <;> omega)) (by omega) (by omega) hgo.2 f.l2]
  simp only [Option.bind_some]
  rw [w64_id (x := t.Long - minI t.Long (goneF f.p t.Front)) (by omega)]
  have key : ∀ (r : List Step) (i : Nat) (left : Int) (out : List Part), t.Back.drop i = r → i ≤ t.Back.length → (∀ s ∈ r, stepOk n s) → 0 ≤ left → left ≤ 100000 → out.length ≤ i + 1 →
      loopO (f297_L1 n t) (left, out, (i : Int)) = some (out ++ lyGo n left r) := by
    intro r
    induction r with
    | nil =>
      intro i left out hr hi hso h4 h5 ho
      have hi' : i = t.Back.length := by
        have := List.drop_eq_nil_iff.1 hr
        omega
      subst hi'
      rw [loopO_eq]
      unfold f297_L1
      simp only [lt_f, cond_false]
      simp [lyGo]
    | cons y r ih =>
      intro i left out hr hi hso h4 h5 ho
      obtain ⟨hlt, hy, hr2⟩ := drop_cons hr
      obtain ⟨q2, g1, g2, g3, g4⟩ := stepOk_len (hso y (List.mem_cons_self ..))
      have hyw : y.Way = 1 ∨ y.Way = -1 := by obtain ⟨_, _, _, _, _, _, h⟩ := hso y (List.mem_cons_self ..); exact h
      have hm := minI_le left (lenOf n y)
      rw [loopO_eq]
      have hlen : f294 n y = some (lenOf n y) := by unfold f294; rw [g1, Option.bind_some, g2]
      have hk2 : f297_k2 left (i : Int) y (lenOf n y) out (if y.Way = 1 then lenOf n y else 0) = some (.inl (left - minI left (lenOf n y), out ++ [segP y.Piece y.Way (lenOf n y) (lenOf n y) (minI left (lenOf n y))], ((i + 1 : Nat) : Int))) := by
        unfold f297_k2
        rw [show (if lenOf n y < left then lenOf n y else left) = minI left (lenOf n y) from rfl]
        rw [impl_part (along := lenOf n y) (len := lenOf n y) hyw (by split <;> omega) (by omega) (by omega) (Int.le_refl _) g4]
        simp only [Option.bind_some]
        rw [appB_ok (by simp; omega), w64_id (x := left - minI left (lenOf n y)) (by omega), w64_nat (show i < 9223372036854775807 by omega)]
        rfl
      have hF : f297_L1 n t (left, out, (i : Int)) = some (.inl (left - minI left (lenOf n y), out ++ [segP y.Piece y.Way (lenOf n y) (lenOf n y) (minI left (lenOf n y))], ((i + 1 : Nat) : Int))) := by
        unfold f297_L1
        simp only [lt_t hlt, cond_true, getI_nat, hy, Option.bind_some, hlen]
        rcases hyw with hw | hw
        · rw [hw] at hk2 ⊢
          rw [if_pos rfl] at hk2
          exact hk2
        · rw [hw] at hk2 ⊢
          rw [if_neg (by decide)] at hk2
          exact hk2
      rw [hF]
      simp only [Option.bind_some]
      rw [ih (i + 1) _ _ hr2 hlt (fun s hs => hso s (List.mem_cons_of_mem _ hs)) (by omega) (by omega) (by simp; omega), List.append_assoc]
      rfl
  have := key t.Back 0 (t.Long - minI t.Long (goneF f.p t.Front)) [segP t.Front.Piece t.Front.Way (goneF f.p t.Front) f.p.Len (minI t.Long (goneF f.p t.Front))] rfl (Nat.zero_le _) (backOk_all f.back) (by omega) (by omega) (Nat.le_refl _)
  exact this
theorem lyL_len (n : Net) (t : Train) (p : Piece) : (lyL n t p).length = t.Back.length + 1 := by unfold lyL; rw [List.length_cons, lyGo_len]
/-- A loop that keeps what fits. -/
theorem loop_filter {α : Type} {by_ : Nat} {F : List α × Int → Option ((List α × Int) ⊕ List α)} (xs : List α) (p : α → Bool) (hl : xs.length * (by_ + 1) ≤ 70368744177664) (h : ∀ (ys : List α) (i : Nat) (x : α), xs[i]? = some x → F (ys, (i : Int)) = bif p x then (appB by_ ys [x]).bind fun z => some (.inl (z, ((i + 1 : Nat) : Int))) else some (.inl (ys, ((i + 1 : Nat) : Int)))) (hend : ∀ ys, F (ys, (xs.length : Int)) = some (.inr ys)) : loopO F (([] : List α), (0 : Int)) = some (xs.filter p) := by
  have key : ∀ (r : List α) (i : Nat) (ys : List α), xs.drop i = r → i ≤ xs.length → ys.length ≤ i → loopO F (ys, (i : Int)) = some (ys ++ r.filter p) := by
    intro r
    induction r with
    | nil =>
      intro i ys hr hi _
      have hi' : i = xs.length := by have := List.drop_eq_nil_iff.1 hr; omega
      subst hi'
      rw [loopO_eq, hend]
      simp
    | cons y r ih =>
      intro i ys hr hi hy
      obtain ⟨hlt, hg, hr2⟩ := drop_cons hr
      rw [loopO_eq, h ys i y hg, List.filter_cons]
      cases hp : p y with
      | false =>
        simp only [cond_false, Option.bind_some, Bool.false_eq_true, if_false]
        exact ih (i + 1) ys hr2 hlt (by omega)
      | true =>
        have : (ys.length + [y].length) * (by_ + 1) ≤ xs.length * (by_ + 1) := Nat.mul_le_mul_right _ (by simp; omega)
        rw [appB_ok (by omega)]
        simp only [cond_true, Option.bind_some, if_true]
        rw [ih (i + 1) (ys ++ [y]) hr2 hlt (by simp; omega), List.append_assoc]
        rfl
  have := key xs 0 [] rfl (Nat.zero_le _) (Nat.le_refl _)
  simpa using this
theorem impl_body {n : Net} {t : Train} (f : TrainF n t) : f232 n t = some ((lyL n t f.p).filter full) := by
  have hb := f.b200
  have hlen := lyL_len n t f.p
  unfold f232
  rw [impl_lying f, Option.bind_some]
  refine loop_filter (by_ := 24) (lyL n t f.p) full (by omega) (fun ys i x hx => ?_) (fun ys => ?_)
  · have hi := get_lt hx
    unfold f232_L1 f232_k2 full
    simp only [lt_t hi, cond_true, getI_nat, hx, Option.bind_some, w64_nat (show i < 9223372036854775807 by omega)]
  · unfold f232_L1
    simp only [lt_f, cond_false, Option.map_some]
theorem catB_ok {a b : ByteArray} (h : a.size + b.size ≤ 1099511627776) : catB a b = some (a ++ b) := if_pos h
theorem text_some : ∀ (n : Nat) (k : Int) (s : ByteArray), 0 ≤ k → k ≤ 4611686018427387904 → k < ((10 ^ n : Nat) : Int) → s.size + n ≤ 1000 → ∃ r, loopO f309_L1 (k, s) = some r
  | 0, k, s, h0, hb, h1, h2 => by
    have : k = 0 := by simp at h1; omega
    subst this
    rw [loopO_eq]
    unfold f309_L1
    simp only [show decide ((0:Int) > 0) = false from rfl, cond_false]
    rw [catB_ok (by show 1 + s.size ≤ _; omega)]
    exact ⟨_, rfl⟩
  | n + 1, k, s, h0, hb, h1, h2 => by
    rw [loopO_eq]
    unfold f309_L1
    by_cases hk : k > 0
    · simp only [show decide (k > 0) = true by rw [decide_eq_true_eq]; exact hk, cond_true]
      rw [Nat.pow_succ] at h1
      have e1 : (bytesU [⟨IntKind.wrap .u8 (w64 (48 + k.tmod 10))⟩]).size = 1 := rfl
      rw [catB_ok (by rw [e1]; omega)]
      simp only [Option.bind_some]
      have e2 : Int.tdiv k 10 = k / 10 := Int.tdiv_eq_ediv_of_nonneg h0
      rw [e2, w64_id ⟨by omega, by omega⟩]
      exact text_some n (k / 10) _ (by omega) (by omega) (by omega) (by rw [ByteArray.size_append, e1]; omega)
    · simp only [show decide (k > 0) = false by rw [decide_eq_false_iff_not]; exact hk, cond_false]
      rw [catB_ok (by show 1 + s.size ≤ _; omega)]
      exact ⟨_, rfl⟩
def mtext (k : Int) : ByteArray := (f309 k).getD ByteArray.empty
theorem mt_eq {k : Int} (h0 : 0 ≤ k) (hb : k ≤ 4611686018427387904) : f309 k = some (mtext k) := by
  have : ∃ r, f309 k = some r := by
    unfold f309
    cases decide (k ≤ 0) with
    | true => exact ⟨_, rfl⟩
    | false =>
      simp only [cond_false]
      exact text_some 19 k _ h0 hb (by omega) (by decide)
  obtain ⟨r, hr⟩ := this
  unfold mtext
  rw [hr]; rfl
def mkS : ByteArray → Int → ByteArray := fun _ k => mtext k
theorem main19 {n : Net} {t : Train} (hx : fitNet n) (ht : fitTrain t) (hs : smNet n) (hts : smTrain t) : ∃ r, f110 n t = some r ∧ f111 n t = some r ∧ smL (fun _ => True) r := by
  have nil : ∃ r : List Part, some ([] : List Part) = some r ∧ some ([] : List Part) = some r ∧ smL (fun _ => True) r := ⟨[], rfl, rfl, by simp, fun _ _ => trivial⟩
  unfold f110 f111 f79 f82
  rw [l22ok_eq hx hs, good_eq hx hs]
  cases hg : goodNet n with
  | false => exact nil
  | true =>
    obtain ⟨r1, h1, h2⟩ := train_same (t := t) hs hg
    simp only [h1, h2, Option.bind_some, cond_true]
    cases r1 with
    | false => exact nil
    | true =>
      obtain ⟨f⟩ := train_facts hs hg h1
      have l1 : ((lyL n t f.p).filter full).length ≤ 1048576 := Nat.le_trans (List.length_filter_le _ _) (by rw [lyL_len]; have := f.b200; omega)
      simp only [spec_body f, impl_body f, Option.bind_some, Bool.not_true, cond_false]
      exact ⟨_, rfl, rfl, l1, fun _ _ => trivial⟩

def mk_Piece (x : Piece) (k : Int) : Piece := { Name := mtext k, Len := k + 1, Speed := k + 1 + 1, Brake := k + 1 + 1 + 1 }
def ck_Piece (x : Piece) : Nat := 1 + (1 + (1 + (1)))
def mk_End (x : End) (k : Int) : End := { Piece := k, Side := k + 1 }
def ck_End (x : End) : Nat := 1 + (1)
def mk_Joint (x : Joint) (k : Int) : Joint := { Kind := k, Name := mtext (k + 1), Ends := markAll mk_End ck_End x.Ends (k + 1 + 1) }
def ck_Joint (x : Joint) : Nat := 1 + (1 + (csum ck_End x.Ends))
def ms_Net (x : Net) (k : Int) : Net := { Pieces := markAll mk_Piece ck_Piece x.Pieces k, Joints := markAll mk_Joint ck_Joint x.Joints (k + ((csum ck_Piece x.Pieces : Nat) : Int)) }
def cs_Net (x : Net) : Nat := csum ck_Piece x.Pieces + (csum ck_Joint x.Joints)
theorem f228_mark {x : List Piece} {k : Int} (hx : (smL (fun _ => True)) x) (h0 : 0 ≤ k) (hb : k + ((csum ck_Piece x : Nat) : Int) ≤ 4611686018427387904) : f228 x k = some (markAll mk_Piece ck_Piece x k, k + ((csum ck_Piece x : Nat) : Int)) := by
  have hl := hx.1
  unfold f228
  refine mark_loop (F := f228_L1) (fun xs k i => (xs, k, i)) mk_Piece ck_Piece (fun _ => True) x.length (fun pre y post k hp h0 hb hn => ?_) (fun ys k hn => ?_) x [] k hx.2 h0 hb rfl
  · have hlen := len_mid hn
    have hb' : k + ((1 + (1 + (1 + (1))) : Nat) : Int) ≤ 4611686018427387904 := hb
    unfold f228_L1
    simp (disch := omega) only [lt_mid, cond_true, getI_mid, set_mid, Option.bind_some, w64_up, mt_eq]
    rw [show k + ((ck_Piece y : Nat) : Int) = k + 1 + 1 + 1 + 1 from by show k + ((1 + (1 + (1 + (1))) : Nat) : Int) = _; omega]
    rfl
  · unfold f228_L1
    simp only [← hn, lt_f, cond_false, Option.map_some]
theorem f310_mark {x : List End} {k : Int} (hx : (smL (fun _ => True)) x) (h0 : 0 ≤ k) (hb : k + ((csum ck_End x : Nat) : Int) ≤ 4611686018427387904) : f310 x k = some (markAll mk_End ck_End x k, k + ((csum ck_End x : Nat) : Int)) := by
  have hl := hx.1
  unfold f310
  refine mark_loop (F := f310_L1) (fun xs k i => (xs, k, i)) mk_End ck_End (fun _ => True) x.length (fun pre y post k hp h0 hb hn => ?_) (fun ys k hn => ?_) x [] k hx.2 h0 hb rfl
  · have hlen := len_mid hn
    have hb' : k + ((1 + (1) : Nat) : Int) ≤ 4611686018427387904 := hb
    unfold f310_L1
    simp (disch := omega) only [lt_mid, cond_true, getI_mid, set_mid, Option.bind_some, w64_up]
    rw [show k + ((ck_End y : Nat) : Int) = k + 1 + 1 from by show k + ((1 + (1) : Nat) : Int) = _; omega]
    rfl
  · unfold f310_L1
    simp only [← hn, lt_f, cond_false, Option.map_some]
theorem f229_mark {x : List Joint} {k : Int} (hx : (smL smJoint) x) (h0 : 0 ≤ k) (hb : k + ((csum ck_Joint x : Nat) : Int) ≤ 4611686018427387904) : f229 x k = some (markAll mk_Joint ck_Joint x k, k + ((csum ck_Joint x : Nat) : Int)) := by
  have hl := hx.1
  unfold f229
  refine mark_loop (F := f229_L1) (fun xs k i => (xs, k, i)) mk_Joint ck_Joint smJoint x.length (fun pre y post k hp h0 hb hn => ?_) (fun ys k hn => ?_) x [] k hx.2 h0 hb rfl
  · have hlen := len_mid hn
    have hb' : k + ((1 + (1 + (csum ck_End y.Ends)) : Nat) : Int) ≤ 4611686018427387904 := hb
    unfold f229_L1
    simp (disch := omega) only [lt_mid, cond_true, getI_mid, set_mid, Option.bind_some, w64_up, mt_eq, f310_mark (x := y.Ends) hp]
    rw [show k + ((ck_Joint y : Nat) : Int) = k + 1 + 1 + ((csum ck_End y.Ends : Nat) : Int) from by show k + ((1 + (1 + (csum ck_End y.Ends)) : Nat) : Int) = _; omega]
    rfl
  · unfold f229_L1
    simp only [← hn, lt_f, cond_false, Option.map_some]
theorem f103_mark {x : Net} {k : Int} (hx : smNet x) (h0 : 0 ≤ k) (hb : k + ((cs_Net x : Nat) : Int) ≤ 4611686018427387904) : f103 x k = some (ms_Net x k, k + ((cs_Net x : Nat) : Int)) := by
  unfold cs_Net at hb
  unfold f103
  rw [f228_mark (x := x.Pieces) (k := k) hx.1 (by omega) (by omega), Option.bind_some]
  dsimp only
  rw [f229_mark (x := x.Joints) (k := k + ((csum ck_Piece x.Pieces : Nat) : Int)) hx.2 (by omega) (by omega), Option.bind_some]
  dsimp only
  rw [show k + ((cs_Net x : Nat) : Int) = k + ((csum ck_Piece x.Pieces : Nat) : Int) + ((csum ck_Joint x.Joints : Nat) : Int) from by unfold cs_Net; omega]
  rfl
theorem ck_Piece_le (x : Piece) (hx : (fun _ => True) x) : ck_Piece x ≤ 4 := by
  unfold ck_Piece
  omega
theorem ck_End_le (x : End) (hx : (fun _ => True) x) : ck_End x ≤ 2 := by
  unfold ck_End
  omega
theorem ck_Joint_le (x : Joint) (hx : smJoint x) : ck_Joint x ≤ 2097154 := by
  unfold ck_Joint
  have h0 : (csum ck_End) x.Ends ≤ 2097152 := by
    have h := (fun _ hx => csum_bd (p := (fun _ => True)) ck_End_le hx.1 hx.2) x.Ends hx
    exact h
  omega
theorem cs_Net_le (x : Net) (hx : smNet x) : cs_Net x ≤ 2199029547008 := by
  unfold cs_Net
  have h0 : (csum ck_Piece) x.Pieces ≤ 4194304 := by
    have h := (fun _ hx => csum_bd (p := (fun _ => True)) ck_Piece_le hx.1 hx.2) x.Pieces hx.1
    exact h
  have h1 : (csum ck_Joint) x.Joints ≤ 2199025352704 := by
    have h := (fun _ hx => csum_bd (p := smJoint) ck_Joint_le hx.1 hx.2) x.Joints hx.2
    exact h
  omega
def mk_Step (x : Step) (k : Int) : Step := { Piece := k, Way := k + 1 }
def ck_Step (x : Step) : Nat := 1 + (1)
def ms_Train (x : Train) (k : Int) : Train := { Front := x.Front, Long := x.Long, Back := markAll mk_Step ck_Step x.Back k }
def cs_Train (x : Train) : Nat := csum ck_Step x.Back
theorem f179_mark {x : List Step} {k : Int} (hx : (smL (fun _ => True)) x) (h0 : 0 ≤ k) (hb : k + ((csum ck_Step x : Nat) : Int) ≤ 4611686018427387904) : f179 x k = some (markAll mk_Step ck_Step x k, k + ((csum ck_Step x : Nat) : Int)) := by
  have hl := hx.1
  unfold f179
  refine mark_loop (F := f179_L1) (fun xs k i => (xs, k, i)) mk_Step ck_Step (fun _ => True) x.length (fun pre y post k hp h0 hb hn => ?_) (fun ys k hn => ?_) x [] k hx.2 h0 hb rfl
  · have hlen := len_mid hn
    have hb' : k + ((1 + (1) : Nat) : Int) ≤ 4611686018427387904 := hb
    unfold f179_L1
    simp (disch := omega) only [lt_mid, cond_true, getI_mid, set_mid, Option.bind_some, w64_up]
    rw [show k + ((ck_Step y : Nat) : Int) = k + 1 + 1 from by show k + ((1 + (1) : Nat) : Int) = _; omega]
    rfl
  · unfold f179_L1
    simp only [← hn, lt_f, cond_false, Option.map_some]
theorem f108_mark {x : Train} {k : Int} (hx : smTrain x) (h0 : 0 ≤ k) (hb : k + ((cs_Train x : Nat) : Int) ≤ 4611686018427387904) : f108 x k = some (ms_Train x k, k + ((cs_Train x : Nat) : Int)) := by
  unfold cs_Train at hb
  unfold f108
  rw [f179_mark (x := x.Back) (k := k) hx (by omega) (by omega), Option.bind_some]
  dsimp only
  rw [show k + ((cs_Train x : Nat) : Int) = k + ((csum ck_Step x.Back : Nat) : Int) from by unfold cs_Train; omega]
  rfl
theorem ck_Step_le (x : Step) (hx : (fun _ => True) x) : ck_Step x ≤ 2 := by
  unfold ck_Step
  omega
theorem cs_Train_le (x : Train) (hx : smTrain x) : cs_Train x ≤ 2097152 := by
  unfold cs_Train
  have h0 : (csum ck_Step) x.Back ≤ 2097152 := by
    have h := (fun _ hx => csum_bd (p := (fun _ => True)) ck_Step_le hx.1 hx.2) x.Back hx
    exact h
  omega
def mk_Part (x : Part) (k : Int) : Part := { Piece := k, From := k + 1, To := k + 1 + 1 }
def ck_Part (x : Part) : Nat := 1 + (1 + (1))
theorem f113_mark {x : List Part} {k : Int} (hx : (smL (fun _ => True)) x) (h0 : 0 ≤ k) (hb : k + ((csum ck_Part x : Nat) : Int) ≤ 4611686018427387904) : f113 x k = some (markAll mk_Part ck_Part x k, k + ((csum ck_Part x : Nat) : Int)) := by
  have hl := hx.1
  unfold f113
  refine mark_loop (F := f113_L1) (fun xs k i => (xs, k, i)) mk_Part ck_Part (fun _ => True) x.length (fun pre y post k hp h0 hb hn => ?_) (fun ys k hn => ?_) x [] k hx.2 h0 hb rfl
  · have hlen := len_mid hn
    have hb' : k + ((1 + (1 + (1)) : Nat) : Int) ≤ 4611686018427387904 := hb
    unfold f113_L1
    simp (disch := omega) only [lt_mid, cond_true, getI_mid, set_mid, Option.bind_some, w64_up]
    rw [show k + ((ck_Part y : Nat) : Int) = k + 1 + 1 + 1 from by show k + ((1 + (1 + (1)) : Nat) : Int) = _; omega]
    rfl
  · unfold f113_L1
    simp only [← hn, lt_f, cond_false, Option.map_some]
theorem ck_Part_le (x : Part) (hx : (fun _ => True) x) : ck_Part x ≤ 3 := by
  unfold ck_Part
  omega
theorem f114_held {x : List Part} {k : Int} (hx : (smL (fun _ => True)) x) (h0 : 0 ≤ k) (hb : k + ((csum ck_Part x : Nat) : Int) ≤ 4611686018427387904) : f114 (markAll mk_Part ck_Part x k) k = some (k + ((csum ck_Part x : Nat) : Int)) := by
  have hl := hx.1
  unfold f114
  refine held_loop (F := f114_L1 (markAll mk_Part ck_Part x k)) (fun k i => (k, i)) mk_Part ck_Part (fun _ => True) (markAll mk_Part ck_Part x k) (fun i y k hp h0 hb hy => ?_) (fun k2 => ?_) x [] k rfl hx.2 h0 hb
  · have hlen := get_lt hy
    have hlt := lt_t hlen
    rw [markAll_len] at hlen
    have hb' : k + ((1 + (1 + (1)) : Nat) : Int) ≤ 4611686018427387904 := hb
    unfold f114_L1
    simp (disch := omega) only [hlt, cond_true, getI_nat, hy, Option.bind_some, mk_Part, bne_self_eq_false, beq_self_eq_true, Bool.not_true, cond_false, w64_up, ltz]
    rw [show k + ((ck_Part y : Nat) : Int) = k + 1 + 1 + 1 from by show k + ((1 + (1 + (1)) : Nat) : Int) = _; omega]
    rfl
  · unfold f114_L1
    simp only [lt_f, cond_false, Option.map_some]
theorem law19 (aAN0 : Net) (aAT1 : Train) (haAN0 : fitNet aAN0) (haAT1 : fitTrain aAT1) : f19 aAN0 aAT1 = some true := by
  unfold f19
  obtain ⟨v0, e0, a0, b0⟩ := f77_sz (x := aAN0) (left := 1048576) (by omega) (by omega) haAN0
  rw [e0, Option.bind_some]
  rcases Bool.eq_false_or_eq_true (decide (v0 < (0 : Int))) with hb0 | hb0
  · rw [hb0]; rfl
  rw [hb0, cond_false]; simp only [decide_eq_false_iff_not] at hb0
  have saAN0 := b0.resolve_left hb0
  obtain ⟨v1, e1, a1, b1⟩ := f78_sz (x := aAT1) (left := v0) (by omega) (by omega) haAT1
  rw [e1, Option.bind_some]
  rcases Bool.eq_false_or_eq_true (decide (v1 < (0 : Int))) with hb1 | hb1
  · rw [hb1]; rfl
  rw [hb1, cond_false]; simp only [decide_eq_false_iff_not] at hb1
  have saAT1 := b1.resolve_left hb1
  obtain ⟨r, m1, m2, m3⟩ := main19 haAN0 haAT1 saAN0 saAT1
  have u0 : cs_Net aAN0 ≤ 2199029547008 := by
    have h := cs_Net_le aAN0 saAN0
    exact h
  have k0 := f103_mark (x := aAN0) (k := (1 : Int)) saAN0 (by omega) (by omega)
  have u1 : cs_Train aAT1 ≤ 2097152 := by
    have h := cs_Train_le aAT1 saAT1
    exact h
  have k1 := f108_mark (x := aAT1) (k := (1 : Int) + ((cs_Net aAN0 : Nat) : Int)) saAT1 (by omega) (by omega)
  have u2 : (csum ck_Part) r ≤ 3145728 := by
    have h := (fun _ hx => csum_bd (p := (fun _ => True)) ck_Part_le hx.1 hx.2) r m3
    exact h
  have k2 := f113_mark (x := r) (k := (1 : Int)) m3 (by omega) (by omega)
  have j2 := f114_held (x := r) (k := (1 : Int)) m3 (by omega) (by omega)
  simp only [f80_to (x := aAN0) saAN0, f81_to (x := aAT1) saAT1, f83_eq (x := aAN0) saAN0, f84_eq (x := aAT1) saAT1, f112_eq (x := r) m3, k0, ltz (show (0:Int) ≤ (1 : Int) + ((cs_Net aAN0 : Nat) : Int) by omega), k1, ltz (show (0:Int) ≤ (1 : Int) + ((cs_Net aAN0 : Nat) : Int) + ((cs_Train aAT1 : Nat) : Int) by omega), k2, ltz (show (0:Int) ≤ (1 : Int) + (((csum ck_Part) r : Nat) : Int) by omega), j2, Option.bind_some, m1, m2, bne_self_eq_false, beq_self_eq_true, Bool.not_true, cond_false]

end
end Go.Proofs.Ytkfekjcahepfnaa.K
