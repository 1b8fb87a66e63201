/-
 The plain part of the law FnExactTurned: on typed values it returns true at every input. No conditions.
-/
import Derived.Test.YtblodpbcinkehaaDTu
set_option linter.unusedVariables false
set_option linter.unusedSimpArgs false
set_option maxRecDepth 100000
namespace Go.Proofs.Ytblodpbcinkehaa.K
noncomputable section
open Go.ChangeShapes Go.WideShapes Go.ChangeAt Go.RowKit
abbrev fitPiece (x : Piece) : Prop := (fun s => s.size ≤ 9223372036854775807) x.Name ∧ fitsI x.Len ∧ fitsI x.Speed ∧ fitsI x.Brake
abbrev fitEnd (x : End) : Prop := fitsI x.Piece ∧ fitsI x.Side
abbrev fitJoint (x : Joint) : Prop := fitsI x.Kind ∧ (fun s => s.size ≤ 9223372036854775807) x.Name ∧ (fitsL fitEnd) x.Ends
abbrev fitNet (x : Net) : Prop := (fitsL fitPiece) x.Pieces ∧ (fitsL fitJoint) x.Joints
abbrev smJoint (x : Joint) : Prop := (smL (fun _ => True)) x.Ends
abbrev smNet (x : Net) : Prop := (smL (fun _ => True)) x.Pieces ∧ (smL smJoint) x.Joints
abbrev fitSpot (x : Spot) : Prop := fitsI x.Piece ∧ fitsI x.At ∧ fitsI x.Way
abbrev fitStep (x : Step) : Prop := fitsI x.Piece ∧ fitsI x.Way
abbrev fitTrain (x : Train) : Prop := fitSpot x.Front ∧ fitsI x.Long ∧ (fitsL fitStep) x.Back
abbrev smTrain (x : Train) : Prop := (smL (fun _ => True)) x.Back
theorem rd9 : Reads Try.prog 9 ByteArray (fun s => s.size ≤ 9223372036854775807) := reads_str Try.underlying9
theorem rd3 : Reads Try.prog 3 Int fitsI := reads_int Try.underlying3
theorem rd71 : Reads Try.prog 71 Piece fitPiece := by
 intro K enc W sp fuel cs d ps h
 obtain ⟨fu, hl, hf⟩ := trod_struct Try.underlying71 h
 have hl : cs.length = 4 := hl
 obtain ⟨_, _, h0⟩ := hf _ (List.Mem.head _)
 obtain ⟨x0, r0, g0⟩ := rd9 _ _ _ _ _ _ _ h0
 obtain ⟨_, _, h1⟩ := hf _ (List.Mem.tail _ (List.Mem.head _))
 obtain ⟨x1, r1, g1⟩ := rd3 _ _ _ _ _ _ _ h1
 obtain ⟨_, _, h2⟩ := hf _ (List.Mem.tail _ (List.Mem.tail _ (List.Mem.head _)))
 obtain ⟨x2, r2, g2⟩ := rd3 _ _ _ _ _ _ _ h2
 obtain ⟨_, _, h3⟩ := hf _ (List.Mem.tail _ (List.Mem.tail _ (List.Mem.tail _ (List.Mem.head _))))
 obtain ⟨x3, r3, g3⟩ := rd3 _ _ _ _ _ _ _ h3
 exact ⟨⟨x0, x1, x2, x3⟩, fld (off := 0) (sz := 1) r0 (fld (off := 1) (sz := 1) r1 (fld (off := 2) (sz := 1) r2 (fldLast (sz := 1) hl r3))), g0, g1, g2, g3⟩
theorem rd22 : Reads Try.prog 22 (List Piece) (fitsL fitPiece) := reads_slice Try.underlying22 rfl rd71
theorem rd119 : Reads Try.prog 119 End fitEnd := by
 intro K enc W sp fuel cs d ps h
 obtain ⟨fu, hl, hf⟩ := trod_struct Try.underlying119 h
 have hl : cs.length = 2 := hl
 obtain ⟨_, _, h0⟩ := hf _ (List.Mem.head _)
 obtain ⟨x0, r0, g0⟩ := rd3 _ _ _ _ _ _ _ h0
 obtain ⟨_, _, h1⟩ := hf _ (List.Mem.tail _ (List.Mem.head _))
 obtain ⟨x1, r1, g1⟩ := rd3 _ _ _ _ _ _ _ h1
 exact ⟨⟨x0, x1⟩, fld (off := 0) (sz := 1) r0 (fldLast (sz := 1) hl r1), g0, g1⟩
theorem rd73 : Reads Try.prog 73 (List End) (fitsL fitEnd) := reads_slice Try.underlying73 rfl rd119
theorem rd75 : Reads Try.prog 75 Joint fitJoint := by
 intro K enc W sp fuel cs d ps h
 obtain ⟨fu, hl, hf⟩ := trod_struct Try.underlying75 h
 have hl : cs.length = 3 := hl
 obtain ⟨_, _, h0⟩ := hf _ (List.Mem.head _)
 obtain ⟨x0, r0, g0⟩ := rd3 _ _ _ _ _ _ _ h0
 obtain ⟨_, _, h1⟩ := hf _ (List.Mem.tail _ (List.Mem.head _))
 obtain ⟨x1, r1, g1⟩ := rd9 _ _ _ _ _ _ _ h1
 obtain ⟨_, _, h2⟩ := hf _ (List.Mem.tail _ (List.Mem.tail _ (List.Mem.head _)))
 obtain ⟨x2, r2, g2⟩ := rd73 _ _ _ _ _ _ _ h2
 exact ⟨⟨x0, x1, x2⟩, fld (off := 0) (sz := 1) r0 (fld (off := 1) (sz := 1) r1 (fldLast (sz := 1) hl r2)), g0, g1, g2⟩
theorem rd23 : Reads Try.prog 23 (List Joint) (fitsL fitJoint) := reads_slice Try.underlying23 rfl rd75
theorem rd25 : Reads Try.prog 25 Net fitNet := by
 intro K enc W sp fuel cs d ps h
 obtain ⟨fu, hl, hf⟩ := trod_struct Try.underlying25 h
 have hl : cs.length = 2 := hl
 obtain ⟨_, _, h0⟩ := hf _ (List.Mem.head _)
 obtain ⟨x0, r0, g0⟩ := rd22 _ _ _ _ _ _ _ h0
 obtain ⟨_, _, h1⟩ := hf _ (List.Mem.tail _ (List.Mem.head _))
 obtain ⟨x1, r1, g1⟩ := rd23 _ _ _ _ _ _ _ h1
 exact ⟨⟨x0, x1⟩, fld (off := 0) (sz := 1) r0 (fldLast (sz := 1) hl r1), g0, g1⟩
theorem rd27 : Reads Try.prog 27 Spot fitSpot := by
 intro K enc W sp fuel cs d ps h
 obtain ⟨fu, hl, hf⟩ := trod_struct Try.underlying27 h
 have hl : cs.length = 3 := hl
 obtain ⟨_, _, h0⟩ := hf _ (List.Mem.head _)
 obtain ⟨x0, r0, g0⟩ := rd3 _ _ _ _ _ _ _ h0
 obtain ⟨_, _, h1⟩ := hf _ (List.Mem.tail _ (List.Mem.head _))
 obtain ⟨x1, r1, g1⟩ := rd3 _ _ _ _ _ _ _ h1
 obtain ⟨_, _, h2⟩ := hf _ (List.Mem.tail _ (List.Mem.tail _ (List.Mem.head _)))
 obtain ⟨x2, r2, g2⟩ := rd3 _ _ _ _ _ _ _ h2
 exact ⟨⟨x0, x1, x2⟩, fld (off := 0) (sz := 1) r0 (fld (off := 1) (sz := 1) r1 (fldLast (sz := 1) hl r2)), g0, g1, g2⟩
theorem rd83 : Reads Try.prog 83 Step fitStep := by
 intro K enc W sp fuel cs d ps h
 obtain ⟨fu, hl, hf⟩ := trod_struct Try.underlying83 h
 have hl : cs.length = 2 := hl
 obtain ⟨_, _, h0⟩ := hf _ (List.Mem.head _)
 obtain ⟨x0, r0, g0⟩ := rd3 _ _ _ _ _ _ _ h0
 obtain ⟨_, _, h1⟩ := hf _ (List.Mem.tail _ (List.Mem.head _))
 obtain ⟨x1, r1, g1⟩ := rd3 _ _ _ _ _ _ _ h1
 exact ⟨⟨x0, x1⟩, fld (off := 0) (sz := 1) r0 (fldLast (sz := 1) hl r1), g0, g1⟩
theorem rd28 : Reads Try.prog 28 (List Step) (fitsL fitStep) := reads_slice Try.underlying28 rfl rd83
theorem rd30 : Reads Try.prog 30 Train fitTrain := by
 intro K enc W sp fuel cs d ps h
 obtain ⟨fu, hl, hf⟩ := trod_struct Try.underlying30 h
 have hl : cs.length = 5 := hl
 obtain ⟨_, _, h0⟩ := hf _ (List.Mem.head _)
 obtain ⟨x0, r0, g0⟩ := rd27 _ _ _ _ _ _ _ h0
 obtain ⟨_, _, h1⟩ := hf _ (List.Mem.tail _ (List.Mem.head _))
 obtain ⟨x1, r1, g1⟩ := rd3 _ _ _ _ _ _ _ h1
 obtain ⟨_, _, h2⟩ := hf _ (List.Mem.tail _ (List.Mem.tail _ (List.Mem.head _)))
 obtain ⟨x2, r2, g2⟩ := rd28 _ _ _ _ _ _ _ h2
 exact ⟨⟨x0, x1, x2⟩, fld (off := 0) (sz := 3) r0 (fld (off := 3) (sz := 1) r1 (fldLast (sz := 1) hl r2)), g0, g1, g2⟩
theorem f36_sz {x : Piece} {left : Int} (h0 : 0 ≤ left) (h1 : left ≤ 1048576) (hx : fitPiece x) : ∃ v, f36 x left = some v ∧ v ≤ left ∧ (v < 0 ∨ (fun _ => True) x) := by
 unfold f36
 have hz0 : x.Name.size ≤ 9223372036854775807 := hx.1
 obtain ⟨v0, e0, a0⟩ : ∃ v, w64 (left - (x.Name.size : Int)) = v ∧ v ≤ left := ⟨_, rfl, by rw [w64_id ⟨by omega, by omega⟩]; omega⟩
 rw [e0]
 rcases Bool.eq_false_or_eq_true (decide (v0 < (0 : Int))) with hb0 | hb0
 ·rw [hb0]; exact ⟨_, rfl, by omega, .inl (by decide)⟩
 rw [hb0, cond_false]; simp only [decide_eq_false_iff_not] at hb0
 exact ⟨_, rfl, by omega, .inr trivial⟩
theorem f15_sz {x : List Piece} {left : Int} (h0 : 0 ≤ left) (h1 : left ≤ 1048576) (hx : (fitsL fitPiece) x) : ∃ v, f15 x left = some v ∧ v ≤ left ∧ (v < 0 ∨ (smL (fun _ => True)) x) := by
 unfold f15
 refine sz_deep (g := f36) (fit := fitPiece) (sm := (fun _ => True)) (fun x l a b c => f36_sz b c a) (fun l i x hi => ?_) (fun l => ?_) h0 h1 hx
 ·unfold f15_L1
  simp only [lt_t (get_lt hi), cond_true, getI_nat, hi, Option.bind_some, Option.map_some]
 ·unfold f15_L1
  simp only [lt_f, cond_false, Option.map_some]
theorem f54_sz {x : List End} {left : Int} (h0 : 0 ≤ left) (h1 : left ≤ 1048576) (hx : (fitsL fitEnd) x) : ∃ v, f54 x left = some v ∧ v ≤ left ∧ (v < 0 ∨ (smL (fun _ => True)) x) := by
 unfold f54
 obtain ⟨v, e1, e2, e3⟩ := sz_flat (xs := x) h0 h1 hx.1
 exact ⟨v, e1, e2, e3.imp id fun h => ⟨h.1, fun _ _ => trivial⟩⟩
theorem f37_sz {x : Joint} {left : Int} (h0 : 0 ≤ left) (h1 : left ≤ 1048576) (hx : fitJoint x) : ∃ v, f37 x left = some v ∧ v ≤ left ∧ (v < 0 ∨ smJoint x) := by
 unfold f37
 have hz0 : x.Name.size ≤ 9223372036854775807 := hx.2.1
 obtain ⟨v0, e0, a0⟩ : ∃ v, w64 (left - (x.Name.size : Int)) = v ∧ v ≤ left := ⟨_, rfl, by rw [w64_id ⟨by omega, by omega⟩]; omega⟩
 rw [e0]
 rcases Bool.eq_false_or_eq_true (decide (v0 < (0 : Int))) with hb0 | hb0
 ·rw [hb0]; exact ⟨_, rfl, by omega, .inl (by decide)⟩
 rw [hb0, cond_false]; simp only [decide_eq_false_iff_not] at hb0
 obtain ⟨v1, e1, a1, b1⟩ := f54_sz (x := x.Ends) (left := v0) (by omega) (by omega) hx.2.2
 rw [e1, Option.bind_some]
 rcases Bool.eq_false_or_eq_true (decide (v1 < (0 : Int))) with hb1 | hb1
 ·rw [hb1]; exact ⟨_, rfl, by omega, .inl (by decide)⟩
 rw [hb1, cond_false]; simp only [decide_eq_false_iff_not] at hb1
 exact ⟨_, rfl, by omega, .inr (b1.resolve_left hb1)⟩
theorem f16_sz {x : List Joint} {left : Int} (h0 : 0 ≤ left) (h1 : left ≤ 1048576) (hx : (fitsL fitJoint) x) : ∃ v, f16 x left = some v ∧ v ≤ left ∧ (v < 0 ∨ (smL smJoint) x) := by
 unfold f16
 refine sz_deep (g := f37) (fit := fitJoint) (sm := smJoint) (fun x l a b c => f37_sz b c a) (fun l i x hi => ?_) (fun l => ?_) h0 h1 hx
 ·unfold f16_L1
  simp only [lt_t (get_lt hi), cond_true, getI_nat, hi, Option.bind_some, Option.map_some]
 ·unfold f16_L1
  simp only [lt_f, cond_false, Option.map_some]
theorem f4_sz {x : Net} {left : Int} (h0 : 0 ≤ left) (h1 : left ≤ 1048576) (hx : fitNet x) : ∃ v, f4 x left = some v ∧ v ≤ left ∧ (v < 0 ∨ smNet x) := by
 unfold f4
 obtain ⟨v0, e0, a0, b0⟩ := f15_sz (x := x.Pieces) (left := left) (by omega) (by omega) hx.1
 rw [e0, Option.bind_some]
 rcases Bool.eq_false_or_eq_true (decide (v0 < (0 : Int))) with hb0 | hb0
 ·rw [hb0]; exact ⟨_, rfl, by omega, .inl (by decide)⟩
 rw [hb0, cond_false]; simp only [decide_eq_false_iff_not] at hb0
 obtain ⟨v1, e1, a1, b1⟩ := f16_sz (x := x.Joints) (left := v0) (by omega) (by omega) hx.2
 rw [e1, Option.bind_some]
 rcases Bool.eq_false_or_eq_true (decide (v1 < (0 : Int))) with hb1 | hb1
 ·rw [hb1]; exact ⟨_, rfl, by omega, .inl (by decide)⟩
 rw [hb1, cond_false]; simp only [decide_eq_false_iff_not] at hb1
 exact ⟨_, rfl, by omega, .inr ⟨b0.resolve_left hb0, b1.resolve_left hb1⟩⟩
theorem f17_sz {x : List Step} {left : Int} (h0 : 0 ≤ left) (h1 : left ≤ 1048576) (hx : (fitsL fitStep) x) : ∃ v, f17 x left = some v ∧ v ≤ left ∧ (v < 0 ∨ (smL (fun _ => True)) x) := by
 unfold f17
 obtain ⟨v, e1, e2, e3⟩ := sz_flat (xs := x) h0 h1 hx.1
 exact ⟨v, e1, e2, e3.imp id fun h => ⟨h.1, fun _ _ => trivial⟩⟩
theorem f5_sz {x : Train} {left : Int} (h0 : 0 ≤ left) (h1 : left ≤ 1048576) (hx : fitTrain x) : ∃ v, f5 x left = some v ∧ v ≤ left ∧ (v < 0 ∨ smTrain x) := by
 unfold f5
 obtain ⟨v0, e0, a0, b0⟩ := f17_sz (x := x.Back) (left := left) (by omega) (by omega) hx.2.2
 rw [e0, Option.bind_some]
 rcases Bool.eq_false_or_eq_true (decide (v0 < (0 : Int))) with hb0 | hb0
 ·rw [hb0]; exact ⟨_, rfl, by omega, .inl (by decide)⟩
 rw [hb0, cond_false]; simp only [decide_eq_false_iff_not] at hb0
 exact ⟨_, rfl, by omega, .inr (b0.resolve_left hb0)⟩
theorem f41_to {x : Piece} (hx : (fun _ => True) x) : f41 x = some x := by
 unfold f41
 rfl
theorem f21_to {x : List Piece} (hx : (smL (fun _ => True)) x) : f21 x = some x := by
 have hl := hx.1
 unfold f21
 rw [makeB_ok (by omega), Option.bind_some]
 have := fill x (fun y => y) (⟨ByteArray.empty, 0, 0, 0⟩ : Piece) (F := f21_L1 x) (fun ys i y hi hy => ?_) (fun ys => ?_)
 ·rw [List.map_id'] at this; exact this
 ·have hlt := get_lt hi
  unfold f21_L1
  have hg := f41_to (x := y) (hx.2 _ (List.mem_of_getElem? hi))
  simp only [lt_t (get_lt hi), cond_true, getI_nat, hi, Option.bind_some, hg]
  rw [List.getElem?_eq_getElem (by omega), Option.bind_some, w64_nat (by omega)]
  rfl
 ·unfold f21_L1
  simp only [lt_f, cond_false, Option.map_some]
theorem f76_to {x : End} (hx : (fun _ => True) x) : f76 x = some x := by
 unfold f76
 rfl
theorem f59_to {x : List End} (hx : (smL (fun _ => True)) x) : f59 x = some x := by
 have hl := hx.1
 unfold f59
 rw [makeB_ok (by omega), Option.bind_some]
 have := fill x (fun y => y) (⟨0, 0⟩ : End) (F := f59_L1 x) (fun ys i y hi hy => ?_) (fun ys => ?_)
 ·rw [List.map_id'] at this; exact this
 ·have hlt := get_lt hi
  unfold f59_L1
  have hg := f76_to (x := y) (hx.2 _ (List.mem_of_getElem? hi))
  simp only [lt_t (get_lt hi), cond_true, getI_nat, hi, Option.bind_some, hg]
  rw [List.getElem?_eq_getElem (by omega), Option.bind_some, w64_nat (by omega)]
  rfl
 ·unfold f59_L1
  simp only [lt_f, cond_false, Option.map_some]
theorem f42_to {x : Joint} (hx : smJoint x) : f42 x = some x := by
 unfold f42
 rw [f59_to (x := x.Ends) hx]
 rfl
theorem f22_to {x : List Joint} (hx : (smL smJoint) x) : f22 x = some x := by
 have hl := hx.1
 unfold f22
 rw [makeB_ok (by omega), Option.bind_some]
 have := fill x (fun y => y) (⟨0, ByteArray.empty, []⟩ : Joint) (F := f22_L1 x) (fun ys i y hi hy => ?_) (fun ys => ?_)
 ·rw [List.map_id'] at this; exact this
 ·have hlt := get_lt hi
  unfold f22_L1
  have hg := f42_to (x := y) (hx.2 _ (List.mem_of_getElem? hi))
  simp only [lt_t (get_lt hi), cond_true, getI_nat, hi, Option.bind_some, hg]
  rw [List.getElem?_eq_getElem (by omega), Option.bind_some, w64_nat (by omega)]
  rfl
 ·unfold f22_L1
  simp only [lt_f, cond_false, Option.map_some]
theorem f7_to {x : Net} (hx : smNet x) : f7 x = some x := by
 unfold f7
 rw [f21_to (x := x.Pieces) hx.1, f22_to (x := x.Joints) hx.2]
 rfl
theorem f23_to {x : Spot} (hx : (fun _ => True) x) : f23 x = some x := by
 unfold f23
 rfl
theorem f43_to {x : Step} (hx : (fun _ => True) x) : f43 x = some x := by
 unfold f43
 rfl
theorem f24_to {x : List Step} (hx : (smL (fun _ => True)) x) : f24 x = some x := by
 have hl := hx.1
 unfold f24
 rw [makeB_ok (by omega), Option.bind_some]
 have := fill x (fun y => y) (⟨0, 0⟩ : Step) (F := f24_L1 x) (fun ys i y hi hy => ?_) (fun ys => ?_)
 ·rw [List.map_id'] at this; exact this
 ·have hlt := get_lt hi
  unfold f24_L1
  have hg := f43_to (x := y) (hx.2 _ (List.mem_of_getElem? hi))
  simp only [lt_t (get_lt hi), cond_true, getI_nat, hi, Option.bind_some, hg]
  rw [List.getElem?_eq_getElem (by omega), Option.bind_some, w64_nat (by omega)]
  rfl
 ·unfold f24_L1
  simp only [lt_f, cond_false, Option.map_some]
theorem f8_to {x : Train} (hx : smTrain x) : f8 x = some x := by
 unfold f8
 rw [f23_to (x := x.Front) trivial, f24_to (x := x.Back) hx]
 rfl
theorem f28_eq {x : Spot} (hx : (fun _ => True) x) : f28 x x = some true := by
 unfold f28
 simp only [bne_self_eq_false, beq_self_eq_true, Bool.not_true, cond_false]
theorem f49_eq {x : Step} (hx : (fun _ => True) x) : f49 x x = some true := by
 unfold f49
 simp only [bne_self_eq_false, beq_self_eq_true, Bool.not_true, cond_false]
theorem f29_eq {x : List Step} (hx : (smL (fun _ => True)) x) : f29 x x = some true := by
 unfold f29
 simp only [bne_self_eq_false, cond_false]
 refine eq_all (F := f29_L1 x x) hx.1 (fun i y hi => ?_) ?_
 ·unfold f29_L1
  have hg := f49_eq (x := y) (hx.2 _ (List.mem_of_getElem? hi))
  simp only [lt_t (get_lt hi), cond_true, getI_nat, hi, Option.bind_some, hg, Bool.not_true, cond_false]
 ·unfold f29_L1
  simp only [lt_f, cond_false, Option.map_some]
theorem f10_eq {x : Train} (hx : smTrain x) : f10 x x = some true := by
 unfold f10
 simp only [bne_self_eq_false, beq_self_eq_true, Bool.not_true, cond_false, f28_eq (x := x.Front) trivial, f29_eq (x := x.Back) hx, Option.bind_some]
theorem f50_eq {x : Piece} (hx : (fun _ => True) x) : f50 x x = some true := by
 unfold f50
 simp only [bne_self_eq_false, beq_self_eq_true, Bool.not_true, cond_false]
theorem f30_eq {x : List Piece} (hx : (smL (fun _ => True)) x) : f30 x x = some true := by
 unfold f30
 simp only [bne_self_eq_false, cond_false]
 refine eq_all (F := f30_L1 x x) hx.1 (fun i y hi => ?_) ?_
 ·unfold f30_L1
  have hg := f50_eq (x := y) (hx.2 _ (List.mem_of_getElem? hi))
  simp only [lt_t (get_lt hi), cond_true, getI_nat, hi, Option.bind_some, hg, Bool.not_true, cond_false]
 ·unfold f30_L1
  simp only [lt_f, cond_false, Option.map_some]
theorem f82_eq {x : End} (hx : (fun _ => True) x) : f82 x x = some true := by
 unfold f82
 simp only [bne_self_eq_false, beq_self_eq_true, Bool.not_true, cond_false]
theorem f68_eq {x : List End} (hx : (smL (fun _ => True)) x) : f68 x x = some true := by
 unfold f68
 simp only [bne_self_eq_false, cond_false]
 refine eq_all (F := f68_L1 x x) hx.1 (fun i y hi => ?_) ?_
 ·unfold f68_L1
  have hg := f82_eq (x := y) (hx.2 _ (List.mem_of_getElem? hi))
  simp only [lt_t (get_lt hi), cond_true, getI_nat, hi, Option.bind_some, hg, Bool.not_true, cond_false]
 ·unfold f68_L1
  simp only [lt_f, cond_false, Option.map_some]
theorem f51_eq {x : Joint} (hx : smJoint x) : f51 x x = some true := by
 unfold f51
 simp only [bne_self_eq_false, beq_self_eq_true, Bool.not_true, cond_false, f68_eq (x := x.Ends) hx, Option.bind_some]
theorem f31_eq {x : List Joint} (hx : (smL smJoint) x) : f31 x x = some true := by
 unfold f31
 simp only [bne_self_eq_false, cond_false]
 refine eq_all (F := f31_L1 x x) hx.1 (fun i y hi => ?_) ?_
 ·unfold f31_L1
  have hg := f51_eq (x := y) (hx.2 _ (List.mem_of_getElem? hi))
  simp only [lt_t (get_lt hi), cond_true, getI_nat, hi, Option.bind_some, hg, Bool.not_true, cond_false]
 ·unfold f31_L1
  simp only [lt_f, cond_false, Option.map_some]
theorem f11_eq {x : Net} (hx : smNet x) : f11 x x = some true := by
 unfold f11
 simp only [bne_self_eq_false, beq_self_eq_true, Bool.not_true, cond_false, f30_eq (x := x.Pieces) hx.1, f31_eq (x := x.Joints) hx.2, Option.bind_some]
theorem str_eq (a b : ByteArray) : (a.toList == b.toList) = decide (a = b) := by
 rw [Bool.eq_iff_iff, decide_eq_true_eq, ByteArray.toList_eq, ByteArray.toList_eq, beq_iff_eq]
 exact ⟨fun h => by cases a; cases b; simp only [Array.toList_inj] at h; rw [h], fun h => by rw [h]⟩
def firstO {ρ : Type} (n : Nat) (b : Nat → Option ρ) (e : Option ρ) : Option ρ := match (List.range n).findSome? b with | some r => some r | none => e
theorem firstO_none {ρ : Type} {n : Nat} {b : Nat → Option ρ} {e : Option ρ} (h : ∀ i, i < n → b i = none) : firstO n b e = e := by
 unfold firstO
 rw [List.findSome?_eq_none_iff.2 (fun x hx => h x (List.mem_range.1 hx))]
theorem firstO_some {ρ : Type} {n : Nat} {b : Nat → Option ρ} {e : Option ρ} {i : Nat} {r : ρ} (hi : i < n) (h : ∀ j, j < i → b j = none) (hr : b i = some r) : firstO n b e = some r := by
 unfold firstO
 have e1 : n = i + ((n - i - 1) + 1) := by omega
 have h0 : (List.range i).findSome? b = none := List.findSome?_eq_none_iff.2 fun x hx => h x (List.mem_range.1 hx)
 rw [e1, List.range_add, List.findSome?_append, h0, List.range_succ_eq_map]
 simp [hr]
theorem first_cases {ρ : Type} (n : Nat) (b : Nat → Option ρ) : (∀ i, i < n → b i = none) ∨ ∃ i r, i < n ∧ (∀ j, j < i → b j = none) ∧ b i = some r := by
 induction n with
 | zero => exact .inl (fun i hi => by omega)
 | succ n ih =>
  rcases ih with h | ⟨i, r, h1, h2, h3⟩
  ·cases hb : b n with
   | none =>
    refine .inl (fun i hi => ?_)
    rcases Nat.lt_or_ge i n with hl | hl
    ·exact h i hl
    ·have : i = n := by omega
     subst this; exact hb
   | some r => exact .inr ⟨n, r, by omega, h, hb⟩
  ·exact .inr ⟨i, r, by omega, h2, h3⟩
theorem loop_find {σ ρ : Type} {F : σ → Option (σ ⊕ ρ)} (n : Nat) (st : Nat → σ) (b : Nat → Option ρ) (e : Option ρ) (h : ∀ i, i < n → (∀ j, j < i → b j = none) → F (st i) = some ((b i).elim (.inl (st (i + 1))) .inr)) (hend : (∀ j, j < n → b j = none) → F (st n) = e.map .inr) : loopO F (st 0) = firstO n b e := by
 have key : ∀ k i, i + k = n → (∀ j, j < i → b j = none) → loopO F (st i) = firstO n b e := by
  intro k
  induction k with
  | zero =>
   intro i hi hb
   have : i = n := by omega
   subst this
   rw [loopO_eq, hend hb, firstO_none hb]
   cases e <;> rfl
  | succ k ih =>
   intro i hi hb
   rw [loopO_eq, h i (by omega) hb]
   cases hr : b i with
   | some r => rw [firstO_some (by omega) hb hr]; rfl
   | none =>
    simp only [Option.bind_some, Option.elim]
    refine ih (i + 1) (by omega) (fun j hj => ?_)
    rcases Nat.lt_or_ge j i with hl | hl
    ·exact hb j hl
    ·have : j = i := by omega
     subst this; exact hr
 exact key n 0 (by omega) (fun j hj => by omega)
theorem loop_fold {α β ρ : Type} {F : β × Int → Option ((β × Int) ⊕ ρ)} (xs : List α) (g : β → α → β) (a0 : β) (e : β → Option ρ) (h : ∀ (a : β) (i : Nat) (x : α), xs[i]? = some x → F (a, (i : Int)) = some (.inl (g a x, ((i + 1 : Nat) : Int)))) (hend : ∀ a, F (a, (xs.length : Int)) = (e a).map .inr) : loopO F (a0, (0 : Int)) = e (xs.foldl g a0) := by
 have key : ∀ k i (a : β), i + k = xs.length → loopO F (a, (i : Int)) = e ((xs.drop i).foldl g a) := by
  intro k
  induction k with
  | zero =>
   intro i a hi
   have : i = xs.length := by omega
   subst this
   rw [loopO_eq, hend, List.drop_length, List.foldl_nil]
   cases e a <;> rfl
  | succ k ih =>
   intro i a hi
   have hlt : i < xs.length := by omega
   rw [loopO_eq, h a i _ (List.getElem?_eq_getElem hlt), List.drop_eq_getElem_cons hlt, List.foldl_cons]
   exact ih (i + 1) _ (by omega)
 have := key xs.length 0 a0 (by omega)
 simpa using this
section
variable {κ ν : Type} [DecidableEq κ]
theorem mfind_none {k : κ} : ∀ {m : List (κ × ν)} {i : Nat}, mfind k m i = none → ∀ j, mfind k m j = none
 | [], _, _, _ => rfl
 | e :: m, i, h, j => by
  unfold mfind at h ⊢
  split at h
  ·cases h
  ·rename_i hk; rw [if_neg hk]; exact mfind_none h (j + 1)
theorem mget_cons (k : κ) (e : κ × ν) (m : List (κ × ν)) (z : ν) : mget k (e :: m) z = if k = e.1 then e.2 else mget k m z := by
 by_cases hk : k = e.1
 ·rw [if_pos hk]
  unfold mget mfind
  rw [if_pos hk]
 ·rw [if_neg hk]
  unfold mget
  have h0 : mfind k (e :: m) 0 = mfind k m (0 + 1) := by rw [mfind, if_neg hk]
  rw [h0]
  have key : ∀ (m : List (κ × ν)) i j, (mfind k m i).map (·.2) = (mfind k m j).map (·.2) := by
   intro m
   induction m with
   | nil => intro i j; rfl
   | cons e m ih =>
    intro i j
    unfold mfind
    split
    ·rfl
    ·exact ih _ _
  have := key m (0 + 1) 0
  cases h1 : mfind k m (0 + 1) <;> cases h2 : mfind k m 0 <;> rw [h1, h2] at this <;> simp_all
theorem mget_append (k k' : κ) (v : ν) (z : ν) : ∀ (m : List (κ × ν)), mfind k' m 0 = none → mget k (m ++ [(k', v)]) z = if k = k' then v else mget k m z
 | [], _ => by rw [List.nil_append, mget_cons]
 | e :: m, h => by
  have h' : k' ≠ e.1 ∧ mfind k' m 0 = none := by
   unfold mfind at h
   split at h
   ·cases h
   ·rename_i hk; exact ⟨hk, mfind_none h 0⟩
  rw [List.cons_append, mget_cons, mget_append k k' v z m h'.2, mget_cons]
  by_cases h1 : k = e.1
  ·rw [if_pos h1, if_pos h1, if_neg (fun (h2 : k = k') => h'.1 (h2 ▸ h1))]
  ·rw [if_neg h1, if_neg h1]
theorem mget_setAt (k k' : κ) (v : ν) (z : ν) : ∀ (m : List (κ × ν)) (n i : Nat) (x : ν), mfind k' m n = some (n + i, x) → mget k (m.set i (k', v)) z = if k = k' then v else mget k m z
 | [], _, _, _, h => by cases h
 | e :: m, n, i, x, h => by
  unfold mfind at h
  split at h
  ·rename_i hk
   simp only [Option.some.injEq, Prod.mk.injEq] at h
   have : i = 0 := by omega
   subst this
   rw [List.set_cons_zero, mget_cons, mget_cons, hk]
   by_cases h1 : k = e.1
   ·rw [if_pos h1, if_pos h1]
   ·rw [if_neg h1, if_neg h1, if_neg h1]
  ·rename_i hk
   have hi := (mfind_get h).1
   simp only [] at hi
   obtain ⟨i', rfl⟩ : ∃ i', i = i' + 1 := ⟨i - 1, by omega⟩
   rw [List.set_cons_succ, mget_cons, mget_setAt k k' v z m (n + 1) i' x (by rw [h]; congr 2; omega), mget_cons]
   by_cases h1 : k = e.1
   ·rw [if_pos h1, if_pos h1, if_neg (fun (h2 : k = k') => hk (h2 ▸ h1))]
   ·rw [if_neg h1, if_neg h1]
theorem mget_mset (k k' : κ) (v z : ν) (m : List (κ × ν)) : mget k (mset k' v m) z = if k = k' then v else mget k m z := by
 unfold mset
 cases h : mfind k' m 0 with
 | none => exact mget_append k k' v z m h
 | some x =>
  obtain ⟨i, y⟩ := x
  exact mget_setAt k k' v z m 0 i y (by rw [h, Nat.zero_add])
theorem mget_keys {α : Type} (p : α → Bool) (f : α → κ) (xs : List α) (k : κ) : mget k (xs.foldl (fun m x => bif p x then mset (f x) true m else m) []) false = xs.any fun x => p x && decide (f x = k) := by
 have key : ∀ (xs : List α) (m : List (κ × Bool)), mget k (xs.foldl (fun m x => bif p x then mset (f x) true m else m) m) false = (mget k m false || xs.any fun x => p x && decide (f x = k)) := by
  intro xs
  induction xs with
  | nil => intro m; simp
  | cons x xs ih =>
   intro m
   rw [List.foldl_cons, ih, List.any_cons]
   cases hp : p x with
   | false => simp
   | true =>
    rw [cond_true, mget_mset]
    by_cases hk : k = f x
    ·rw [if_pos hk]; simp [hk]
    ·rw [if_neg hk]
     have : decide (f x = k) = false := decide_eq_false (fun h => hk h.symm)
     simp [this]
 rw [key]
 rfl
end
theorem firstO_any {ρ : Type} (n : Nat) (p : Nat → Bool) (r : ρ) (e : Option ρ) : firstO n (fun i => bif p i then some r else none) e = bif (List.range n).any p then some r else e := by
 rcases first_cases n (fun i => bif p i then some r else none) with h | ⟨i, r', hi, hj, hr⟩
 ·rw [firstO_none h]
  have : (List.range n).any p = false := by
   rw [List.any_eq_false]
   intro x hx
   have := h x (List.mem_range.1 hx)
   cases hp : p x <;> simp_all
  rw [this]; rfl
 ·rw [firstO_some hi hj hr]
  have hp : p i = true := by cases hp : p i <;> simp_all
  have : (List.range n).any p = true := List.any_eq_true.2 ⟨i, List.mem_range.2 hi, hp⟩
  rw [this]
  simp_all
theorem firstO_all (n : Nat) (p : Nat → Bool) (e : Bool) : firstO n (fun i => bif p i then none else some false) (some e) = some ((List.range n).all p && e) := by
 have : (fun i => bif p i then (none : Option Bool) else some false) = fun i => bif !p i then some false else none := by funext i; cases p i <;> rfl
 rw [this, firstO_any]
 have : ((List.range n).any fun i => !p i) = !((List.range n).all p) := by rw [List.not_all_eq_any_not]
 rw [this]
 cases (List.range n).all p <;> rfl
theorem firstO_is {ρ : Type} (n : Nat) (b : Nat → Option ρ) {e : Option ρ} (h : ∃ r, e = some r) : ∃ r, firstO n b e = some r := by
 unfold firstO
 split
 ·exact ⟨_, rfl⟩
 ·exact h
theorem firstO_congr {ρ : Type} {n : Nat} {b b' : Nat → Option ρ} {e e' : Option ρ} (h : ∀ i, i < n → b i = b' i) (he : (∀ i, i < n → b i = none) → e = e') : firstO n b e = firstO n b' e' := by
 rcases first_cases n b with h1 | ⟨i, r, hi, hj, hr⟩
 ·rw [firstO_none h1, firstO_none (fun i hi => by rw [← h i hi]; exact h1 i hi)]; exact he h1
 ·rw [firstO_some hi hj hr, firstO_some hi (fun j hl => by rw [← h j (by omega)]; exact hj j hl) (by rw [← h i hi]; exact hr)]
theorem cond_some {α : Type} (b : Bool) (x y : α) : (bif b then some x else some y) = some (bif b then x else y) := by cases b <;> rfl
theorem range_any_take {α : Type} (xs : List α) (g : α → Bool) : ∀ i, ((List.range i).any fun j => (xs[j]?).any g) = (xs.take i).any g
 | 0 => by simp
 | i + 1 => by
  rw [List.range_succ, List.any_append, range_any_take xs g i, List.take_add_one, List.any_append, List.any_cons, List.any_nil, Bool.or_false]
  cases xs[i]? <;> simp [Option.any]
theorem foldl_take {α β : Type} (g : β → α → β) (a : β) {xs : List α} {i : Nat} {x : α} (h : xs[i]? = some x) : (xs.take (i + 1)).foldl g a = g ((xs.take i).foldl g a) x := by
 rw [List.take_add_one, List.foldl_append, h]; rfl
theorem byteAt_ok {s : ByteArray} {i : Nat} (h : i < s.size) : byteAt s (i : Int) = some ((byteAt s (i : Int)).getD 0) := by
 unfold byteAt
 rw [if_pos (by omega), Int.toNat_natCast, getElem?_pos s i h]
 rfl
theorem loopO_elim {σ ρ : Type} (F : σ → Option (σ ⊕ ρ)) (s : σ) : loopO F s = (F s).bind (Sum.elim (loopO F) some) := by
 rw [loopO_eq]
 congr 1
 funext x
 cases x <;> rfl
theorem firstO_step {σ ρ : Type} (n : Nat) (b : Nat → Option ρ) (s : σ) (k : σ → Option ρ) : ((firstO n (fun i => (b i).map Sum.inr) (some (.inl s))).bind (Sum.elim k some)) = firstO n b (k s) := by
 rcases first_cases n b with h | ⟨i, r, hi, hj, hr⟩
 ·rw [firstO_none h, firstO_none (fun i hi => by rw [h i hi]; rfl)]; rfl
 ·rw [firstO_some hi hj hr, firstO_some (r := .inr r) hi (fun j hl => by rw [hj j hl]; rfl) (by rw [hr]; rfl)]; rfl
theorem mget_counts {κ : Type} [DecidableEq κ] (xs : List κ) (k : κ) : mget k (xs.foldl (fun m x => mset x (w64 (mget x m 0 + 1)) m) []) 0 = xs.foldl (fun a x => bif decide (x = k) then w64 (a + 1) else a) (0 : Int) := by
 have key : ∀ (xs : List κ) (m : List (κ × Int)), mget k (xs.foldl (fun m x => mset x (w64 (mget x m 0 + 1)) m) m) 0 = xs.foldl (fun a x => bif decide (x = k) then w64 (a + 1) else a) (mget k m 0) := by
  intro xs
  induction xs with
  | nil => intro m; rfl
  | cons x xs ih =>
   intro m
   rw [List.foldl_cons, ih, List.foldl_cons, mget_mset]
   by_cases hk : x = k
   ·subst hk; simp
   ·rw [if_neg (fun h => hk h.symm)]; simp [hk]
 rw [key]
 rfl
theorem firstO_mem {ρ : Type} {n : Nat} {b : Nat → Option ρ} {e : Option ρ} {r : ρ} (h : firstO n b e = some r) : (∃ i, i < n ∧ b i = some r) ∨ ((∀ i, i < n → b i = none) ∧ e = some r) := by
 rcases first_cases n b with h1 | ⟨i, r', hi, hj, hr⟩
 ·rw [firstO_none h1] at h; exact .inr ⟨h1, h⟩
 ·rw [firstO_some hi hj hr] at h; exact .inl ⟨i, hi, hr.trans h⟩
theorem bif_some {α : Type} {b : Bool} {x y : α} (h : (bif b then some x else none) = some y) : b = true ∧ x = y := by
 cases b
 ·cases h
 ·exact ⟨rfl, by simpa using h⟩
theorem bif_none {α : Type} {b : Bool} {x : α} (h : (bif b then some x else none) = none) : b = false := by
 cases b
 ·rfl
 ·cases h
theorem firstO_elim {σ ρ : Type} (n : Nat) (b : Nat → Option ρ) (s : σ) : firstO n (fun i => (b i).map Sum.inr) (some (.inl s)) = some ((firstO n b none).elim (.inl s) .inr) := by
 rcases first_cases n b with h | ⟨i, r, hi, hj, hr⟩
 ·rw [firstO_none h, firstO_none (fun i hi => by rw [h i hi]; rfl)]; rfl
 ·rw [firstO_some hi hj hr, firstO_some (r := .inr r) hi (fun j hl => by rw [hj j hl]; rfl) (by rw [hr]; rfl)]; rfl
theorem firstO_no {ρ : Type} {n : Nat} {b : Nat → Option ρ} {e : Option ρ} (h : firstO n b e = none) : ∀ i, i < n → b i = none := by
 rcases first_cases n b with h1 | ⟨i, r, hi, hj, hr⟩
 ·exact h1
 ·rw [firstO_some hi hj hr] at h; cases h
theorem loop_twin {σ ρ : Type} {F F' : σ → Option (σ ⊕ ρ)} (n : Nat) (Inv : Nat → σ → Prop) (s0 : σ) (h0 : Inv 0 s0) (h : ∀ i s, i < n → Inv i s → F s = F' s ∧ ((∃ s', F' s = some (.inl s') ∧ Inv (i + 1) s') ∨ ∃ r, F' s = some (.inr r))) (hend : ∀ s, Inv n s → F s = F' s ∧ ∃ r, F' s = some (.inr r)) : ∃ r, loopO F s0 = some r ∧ loopO F' s0 = some r := by
 have key : ∀ k i s, i + k = n → Inv i s → ∃ r, loopO F s = some r ∧ loopO F' s = some r := by
  intro k
  induction k with
  | zero =>
   intro i s hi hs
   have : i = n := by omega
   subst this
   obtain ⟨h1, r, h2⟩ := hend s hs
   exact ⟨r, by rw [loopO_eq, h1, h2]; rfl, by rw [loopO_eq, h2]; rfl⟩
  | succ k ih =>
   intro i s hi hs
   obtain ⟨h1, h2⟩ := h i s (by omega) hs
   rcases h2 with ⟨s', h2, h3⟩ | ⟨r, h2⟩
   ·obtain ⟨r, h4, h5⟩ := ih (i + 1) s' (by omega) h3
    exact ⟨r, by rw [loopO_eq, h1, h2]; exact h4, by rw [loopO_eq, h2]; exact h5⟩
   ·exact ⟨r, by rw [loopO_eq, h1, h2]; rfl, by rw [loopO_eq, h2]; rfl⟩
 exact key n 0 s0 (by omega) h0
def nameByte (c : Int) : Bool := ((decide (c ≥ (97:Int)) && decide (c ≤ (122:Int))) || (decide (c ≥ (48:Int)) && decide (c ≤ (57:Int)))) || (c == (95:Int))
def namedB (s : ByteArray) : Bool := ((List.range s.size).all fun i => nameByte ((byteAt s (i : Int)).getD 0)) && (decide ((s.size : Int) ≥ (1:Int)) && decide ((s.size : Int) ≤ (20:Int)))
theorem l11name_eq {s : ByteArray} (h : s.size ≤ 9223372036854775807) : f69 s = some (namedB s) := by
 unfold f69
 refine (loop_find s.size (fun i => (i : Int)) (fun i => bif nameByte ((byteAt s (i : Int)).getD 0) then none else some false) (some (decide ((s.size : Int) ≥ (1:Int)) && decide ((s.size : Int) ≤ (20:Int)))) (fun i hi _ => ?_) (fun _ => ?_)).trans (firstO_all _ _ _)
 ·unfold f69_L1
  have hb := byteAt_ok hi
  generalize (byteAt s (i : Int)).getD 0 = c at hb ⊢
  simp only [lt_t hi, cond_true, hb, Option.bind_some, w64_nat (show i < 9223372036854775807 by omega)]
  show (bif !(nameByte c) then _ else _) = _
  cases nameByte c <;> rfl
 ·unfold f69_L1
  simp only [lt_f, cond_false]
theorem named_eq {s : ByteArray} (h : s.size ≤ 9223372036854775807) : f78 s = some (namedB s) := by
 unfold f78
 have h1 : (decide ((s.size : Int) ≥ (1:Int)) && decide ((s.size : Int) ≤ (20:Int))) = !(decide ((s.size : Int) < (1:Int)) || decide ((s.size : Int) > (20:Int))) := by
  rw [Bool.eq_iff_iff]; simp
 unfold namedB
 rw [h1]
 cases decide ((s.size : Int) < (1:Int)) || decide ((s.size : Int) > (20:Int)) with
 | true => simp
 | false =>
  rw [cond_false]
  refine (loop_find s.size (fun i => (i : Int)) (fun i => bif nameByte ((byteAt s (i : Int)).getD 0) then none else some false) (some true) (fun i hi _ => ?_) (fun _ => ?_)).trans (firstO_all _ _ _)
  ·unfold f78_L1
   have hb := byteAt_ok hi
   generalize (byteAt s (i : Int)).getD 0 = c at hb ⊢
   simp only [lt_t hi, cond_true, hb, Option.bind_some, w64_nat (show i < 9223372036854775807 by omega)]
   show (bif !(nameByte c) then _ else _) = _
   cases nameByte c <;> rfl
  ·unfold f78_L1
   simp only [lt_f, cond_false]
def okP (p : Piece) : Bool := ((((((namedB p.Name && decide (p.Len ≥ (1:Int))) && decide (p.Len ≤ (10000000:Int))) && decide (p.Speed ≥ (1:Int))) && decide (p.Speed ≤ (10000:Int))) && decide (p.Brake ≥ (1:Int))) && decide (p.Brake ≤ (1000:Int)))
def badP (n : Net) (i : Nat) : Bool := (n.Pieces[i]?).any fun p => !okP p || (n.Pieces.take i).any fun q => decide (q.Name = p.Name)
def okE (n : Net) (e : End) : Bool := (decide (e.Piece ≥ (0:Int)) && decide (e.Piece < (n.Pieces.length : Int))) && (decide (e.Side ≥ (0:Int)) && decide (e.Side ≤ (1:Int)))
def bad3 (n : Net) (c : Joint) : Bool := (decide (c.Kind < (1:Int)) || decide (c.Kind > (4:Int))) || ((c.Ends.length : Int) != c.Kind) || c.Ends.any fun e => !okE n e
def bad4 (n : Net) (i : Nat) (c : Joint) : Bool := bif decide (c.Kind ≤ (2:Int)) then !decide (c.Name = ({ data := #[] } : ByteArray)) else !namedB c.Name || (n.Joints.take i).any fun d => decide (d.Name = c.Name)
def endsOf (n : Net) : List End := n.Joints.flatMap (·.Ends)
def usesOf (n : Net) (e : End) : Int := (endsOf n).foldl (fun a x => bif decide (x = e) then w64 (a + 1) else a) 0
def bad5 (n : Net) (i : Nat) : Bool := (usesOf n ⟨(i : Int), 0⟩ != 1) || (usesOf n ⟨(i : Int), 1⟩ != 1)
def netO (n : Net) : Option Fault :=
 bif ((((n.Pieces.length : Int) == (0:Int)) || decide ((n.Pieces.length : Int) > (100:Int))) || decide ((n.Joints.length : Int) > (120:Int))) then some ⟨1, 0⟩ else
 firstO n.Pieces.length (fun i => bif badP n i then some ⟨2, (i : Int)⟩ else none) <|
 firstO n.Joints.length (fun i => bif (n.Joints[i]?).any (bad3 n) then some ⟨3, (i : Int)⟩ else none) <|
 firstO n.Joints.length (fun i => bif (n.Joints[i]?).any (bad4 n i) then some ⟨4, (i : Int)⟩ else none) <|
 firstO n.Pieces.length (fun i => bif bad5 n i then some ⟨5, (i : Int)⟩ else none) (some ⟨0, 0⟩)
theorem netO_is (n : Net) : ∃ r, netO n = some r := by
 unfold netO
 cases ((((n.Pieces.length : Int) == (0:Int)) || decide ((n.Pieces.length : Int) > (100:Int))) || decide ((n.Joints.length : Int) > (120:Int))) with
 | true => exact ⟨_, rfl⟩
 | false => exact firstO_is _ _ (firstO_is _ _ (firstO_is _ _ (firstO_is _ _ ⟨_, rfl⟩)))
theorem in_eq (x a b : Int) : f70 x a b = some (decide (x ≥ a) && decide (x ≤ b)) := rfl
theorem spec_piece {x : Net} (hx : fitNet x) (hs : smNet x) {i : Nat} (hi : i < x.Pieces.length) : f55_L1 x (i : Int) = some ((bif badP x i then some (⟨2, (i : Int)⟩ : Fault) else none).elim (.inl (((i + 1 : Nat) : Int))) .inr) := by
 have hl := hs.1.1
 obtain ⟨p, hp⟩ : ∃ p, x.Pieces[i]? = some p := ⟨_, List.getElem?_eq_getElem hi⟩
 have hf := hx.1.2 p (List.mem_of_getElem? hp)
 have hL : loopO (f55_L2 x (i : Int) p) (0 : Int) = some (bif (x.Pieces.take i).any fun q => decide (q.Name = p.Name) then .inr ⟨2, (i : Int)⟩ else .inl ((i + 1 : Nat) : Int)) := by
  refine (loop_find i (fun j => (j : Int)) (fun j => bif (x.Pieces[j]?).any (fun q => decide (q.Name = p.Name)) then some (.inr ⟨2, (i : Int)⟩) else none) (some (.inl ((i + 1 : Nat) : Int))) (fun j hj _ => ?_) (fun _ => ?_)).trans ?_
  ·unfold f55_L2
   have hjl : j < x.Pieces.length := by omega
   simp only [lt_t hj, cond_true, getI_nat, List.getElem?_eq_getElem hjl, Option.bind_some, str_eq, w64_nat (show j < 9223372036854775807 by omega), Option.any_some]
   cases decide (x.Pieces[j].Name = p.Name) <;> rfl
  ·unfold f55_L2
   simp only [lt_f, cond_false, w64_nat (show i < 9223372036854775807 by omega)]
  ·rw [firstO_any, range_any_take, cond_some]
 unfold f55_L1
 simp only [lt_t hi, cond_true, getI_nat, hp, Option.bind_some, l11name_eq hf.1, in_eq, cond_some, hL]
 have hb : badP x i = (!okP p || (x.Pieces.take i).any fun q => decide (q.Name = p.Name)) := by unfold badP; rw [hp]; rfl
 rw [hb]
 unfold okP
 cases namedB p.Name <;> cases decide (p.Len ≥ (1:Int)) <;> cases decide (p.Len ≤ (10000000:Int)) <;> cases decide (p.Speed ≥ (1:Int)) <;> cases decide (p.Speed ≤ (10000:Int)) <;> cases decide (p.Brake ≥ (1:Int)) <;> cases decide (p.Brake ≤ (1000:Int)) <;> cases ((x.Pieces.take i).any fun q => decide (q.Name = p.Name)) <;> rfl
def namesOf (x : Net) (i : Nat) : List (ByteArray × Bool) := (x.Pieces.take i).foldl (fun m p => bif true then mset p.Name true m else m) []
theorem impl_piece {x : Net} (hx : fitNet x) (hs : smNet x) {i : Nat} (hi : i < x.Pieces.length) : f60_L1 x (namesOf x i, (i : Int)) = some ((bif badP x i then some (⟨2, (i : Int)⟩ : Fault) else none).elim (.inl ((namesOf x (i + 1), ((i + 1 : Nat) : Int)))) .inr) := by
 have hl := hs.1.1
 obtain ⟨p, hp⟩ : ∃ p, x.Pieces[i]? = some p := ⟨_, List.getElem?_eq_getElem hi⟩
 have hf := hx.1.2 p (List.mem_of_getElem? hp)
 have hm : mget p.Name (namesOf x i) false = (x.Pieces.take i).any fun q => decide (q.Name = p.Name) := by
  unfold namesOf
  rw [mget_keys (fun _ => true) (fun q : Piece => q.Name)]
  rfl
 have hn : namesOf x (i + 1) = mset p.Name true (namesOf x i) := foldl_take _ _ hp
 have hb : badP x i = (!okP p || (x.Pieces.take i).any fun q => decide (q.Name = p.Name)) := by unfold badP; rw [hp]; rfl
 have ho : f77 p = some (okP p) := by
  unfold f77
  rw [named_eq hf.1]; rfl
 unfold f60_L1
 simp only [lt_t hi, cond_true, getI_nat, hp, Option.bind_some, ho, hm, hb, hn, w64_nat (show i < 9223372036854775807 by omega)]
 cases okP p <;> cases ((x.Pieces.take i).any fun q => decide (q.Name = p.Name)) <;> rfl
theorem end_eq {x : Net} (hs : smNet x) (e : End) : f83 x e = some (okE x e) := by
 have h1 := hs.1.1
 unfold f83
 simp only [in_eq, Option.bind_some, cond_some]
 rw [le_pred (by omega)]
 unfold okE
 cases decide (e.Piece ≥ (0:Int)) <;> cases decide (e.Piece < (x.Pieces.length : Int)) <;> rfl
theorem lt3 (k : Int) : decide (k < (3:Int)) = decide (k ≤ (2:Int)) := by congr 1; apply propext; omega
theorem spec_joint {x : Net} (hx : fitNet x) (hs : smNet x) {i : Nat} {c : Joint} (hc : x.Joints[i]? = some c) : f71 x (i : Int) = some (bif bad3 x c then 3 else bif bad4 x i c then 4 else 0) := by
 have hi := get_lt hc
 have hl := hs.2.1
 have hm := List.mem_of_getElem? hc
 have hf := hx.2.2 c hm
 have hel : c.Ends.length ≤ 1048576 := (hs.2.2 c hm).1
 have hL2 : loopO (f71_L2 x (i : Int) c) (0 : Int) = some (bif (x.Joints.take i).any fun q => decide (q.Name = c.Name) then 4 else 0) := by
  refine (loop_find i (fun j => (j : Int)) (fun j => bif (x.Joints[j]?).any (fun q => decide (q.Name = c.Name)) then some 4 else none) (some 0) (fun j hj _ => ?_) (fun _ => ?_)).trans ?_
  ·unfold f71_L2
   have hjl : j < x.Joints.length := by omega
   simp only [lt_t hj, cond_true, getI_nat, List.getElem?_eq_getElem hjl, Option.bind_some, str_eq, w64_nat (show j < 9223372036854775807 by omega), Option.any_some]
   cases decide (x.Joints[j].Name = c.Name) <;> rfl
  ·unfold f71_L2
   simp only [lt_f, cond_false]
  ·rw [firstO_any, range_any_take, cond_some]
 have hL1 : loopO (f71_L1 x (i : Int) c) (0 : Int) = some (bif c.Ends.any (fun e => !okE x e) then 3 else bif bad4 x i c then 4 else 0) := by
  refine (loop_find c.Ends.length (fun j => (j : Int)) (fun j => bif (c.Ends[j]?).any (fun e => !okE x e) then some 3 else none) (some (bif bad4 x i c then 4 else 0)) (fun j hj _ => ?_) (fun _ => ?_)).trans ?_
  ·unfold f71_L1
   simp only [lt_t hj, cond_true, getI_nat, List.getElem?_eq_getElem hj, Option.bind_some, end_eq hs, w64_nat (show j < 9223372036854775807 by omega), Option.any_some]
   cases okE x c.Ends[j] <;> rfl
  ·unfold f71_L1
   simp only [lt_f, cond_false, l11name_eq hf.2.1, hL2, Option.bind_some, str_eq, lt3, cond_some]
   unfold bad4
   cases decide (c.Kind ≤ (2:Int)) <;> cases decide (c.Name = ({ data := #[] } : ByteArray)) <;> cases namedB c.Name <;> cases ((x.Joints.take i).any fun d => decide (d.Name = c.Name)) <;> rfl
  ·rw [firstO_any, range_any_take, List.take_length, cond_some]
 unfold f71
 simp only [getI_nat, hc, Option.bind_some, in_eq, hL1, cond_some]
 have hk : (!(decide (c.Kind ≥ (1:Int)) && decide (c.Kind ≤ (4:Int)))) = (decide (c.Kind < (1:Int)) || decide (c.Kind > (4:Int))) := by
  rw [Bool.eq_iff_iff]; simp
 rw [hk]
 unfold bad3
 cases (decide (c.Kind < (1:Int)) || decide (c.Kind > (4:Int))) <;> cases ((c.Ends.length : Int) != c.Kind) <;> cases (c.Ends.any fun e => !okE x e) <;> rfl
theorem end_is (a b : End) : ((a.Piece == b.Piece) && ((a.Side == b.Side) && true)) = decide (a = b) := by
 cases a; cases b
 rw [Bool.eq_iff_iff]
 simp
theorem spec_uses {x : Net} (hs : smNet x) (e : End) : f72 x e = some (usesOf x e) := by
 have hl := hs.2.1
 unfold f72
 refine (loop_fold x.Joints (fun a (c : Joint) => c.Ends.foldl (fun a x => bif decide (x = e) then w64 (a + 1) else a) a) 0 some (fun a i c hc => ?_) (fun a => ?_)).trans ?_
 ·have hi := get_lt hc
  have hel : c.Ends.length ≤ 1048576 := (hs.2.2 c (List.mem_of_getElem? hc)).1
  unfold f72_L1
  simp only [lt_t hi, cond_true, getI_nat, hc, Option.bind_some]
  refine (loop_fold c.Ends (fun a x => bif decide (x = e) then w64 (a + 1) else a) a (fun a => (some (.inl (a, ((i + 1 : Nat) : Int))) : Option ((Int × Int) ⊕ Int))) (fun b j y hy => ?_) (fun b => ?_))
  ·have hj := get_lt hy
   unfold f72_L2 f72_k3
   simp only [lt_t hj, cond_true, getI_nat, hy, Option.bind_some, end_is, w64_nat (show j < 9223372036854775807 by omega)]
   cases decide (y = e) <;> rfl
  ·unfold f72_L2
   simp only [lt_f, cond_false, w64_nat (show i < 9223372036854775807 by omega)]
 ·unfold f72_L1
  simp only [lt_f, cond_false]
 ·unfold usesOf endsOf
  rw [List.foldl_flatMap]
theorem lt2 {i : Nat} (h : i < 2) : decide ((i : Int) < (2:Int)) = true := by rw [decide_eq_true_eq]; omega
theorem spec_ends {x : Net} (hs : smNet x) : loopO (f55_L5 x) (0 : Int) = firstO x.Pieces.length (fun i => bif bad5 x i then some ⟨5, (i : Int)⟩ else none) (some ⟨0, 0⟩) := by
 have hl := hs.1.1
 refine loop_find x.Pieces.length (fun i => (i : Int)) _ _ (fun i hi _ => ?_) (fun _ => ?_)
 ·unfold f55_L5
  simp only [lt_t hi, cond_true]
  refine (loop_find 2 (fun s => (s : Int)) (fun s => bif usesOf x ⟨(i : Int), (s : Int)⟩ != 1 then some (.inr ⟨5, (i : Int)⟩) else none) (some (.inl ((i + 1 : Nat) : Int))) (fun s hs2 _ => ?_) (fun _ => ?_)).trans ?_
  ·unfold f55_L6
   simp only [lt2 hs2, cond_true, spec_uses hs, Option.bind_some, w64_nat (show s < 9223372036854775807 by omega)]
   cases (usesOf x ⟨(i : Int), (s : Int)⟩ != 1) <;> rfl
  ·unfold f55_L6
   have : decide (((2 : Nat) : Int) < (2:Int)) = false := by decide
   simp only [this, cond_false, w64_nat (show i < 9223372036854775807 by omega)]
  ·rw [firstO_any]
   unfold bad5
   have : ((List.range 2).any fun s : Nat => usesOf x ⟨(i : Int), (s : Int)⟩ != 1) = ((usesOf x ⟨(i : Int), 0⟩ != 1) || (usesOf x ⟨(i : Int), 1⟩ != 1)) := by
    simp [List.range_succ]
   rw [this]
   cases ((usesOf x ⟨(i : Int), 0⟩ != 1) || (usesOf x ⟨(i : Int), 1⟩ != 1)) <;> rfl
 ·unfold f55_L5
  simp only [lt_f, cond_false]
theorem spec_code {x : Net} (hx : fitNet x) (hs : smNet x) (k : Nat) (hk : k < 100) : loopO (f55_L4 x (k : Int)) (0 : Int) = firstO x.Joints.length (fun i => (bif (x.Joints[i]?).any (fun c => (bif bad3 x c then 3 else bif bad4 x i c then 4 else 0) == (k : Int)) then some (⟨(k : Int), (i : Int)⟩ : Fault) else none).map Sum.inr) (some (.inl ((k + 1 : Nat) : Int))) := by
 have hl := hs.2.1
 refine loop_find x.Joints.length (fun i => (i : Int)) _ _ (fun i hi _ => ?_) (fun _ => ?_)
 ·unfold f55_L4
  simp only [lt_t hi, cond_true, spec_joint hx hs (List.getElem?_eq_getElem hi), List.getElem?_eq_getElem hi, Option.any_some, Option.bind_some, w64_nat (show i < 9223372036854775807 by omega)]
  cases ((bif bad3 x x.Joints[i] then 3 else bif bad4 x i x.Joints[i] then 4 else 0) == (k : Int)) <;> rfl
 ·unfold f55_L4
  simp only [lt_f, cond_false, w64_nat (show k < 9223372036854775807 by omega)]
theorem spec_net {x : Net} (hx : fitNet x) (hs : smNet x) : f55 x = netO x := by
 have hl := hs.1.1
 unfold f55 netO
 cases ((((x.Pieces.length : Int) == (0:Int)) || decide ((x.Pieces.length : Int) > (100:Int))) || decide ((x.Joints.length : Int) > (120:Int))) with
 | true => rfl
 | false =>
  rw [cond_false, cond_false]
  refine loop_find x.Pieces.length (fun i => (i : Int)) _ _ (fun i hi _ => spec_piece hx hs hi) (fun _ => ?_)
  unfold f55_L1
  simp only [lt_f, cond_false]
  congr 1
  rw [loopO_elim]
  have e3 : f55_L3 x (3:Int) = loopO (f55_L4 x ((3 : Nat) : Int)) 0 := rfl
  have e4 : f55_L3 x (4:Int) = loopO (f55_L4 x ((4 : Nat) : Int)) 0 := rfl
  have e5 : f55_L3 x (5:Int) = (loopO (f55_L5 x) 0).map Sum.inr := rfl
  rw [e3, spec_code hx hs 3 (by decide), firstO_step]
  show firstO _ _ (loopO _ (4 : Int)) = _
  rw [loopO_elim, e4, spec_code hx hs 4 (by decide), firstO_step]
  show firstO _ _ (firstO _ _ (loopO _ (5 : Int))) = _
  rw [loopO_elim, e5, spec_ends hs]
  refine firstO_congr (fun i hi => ?_) (fun h3 => ?_)
  ·simp only [List.getElem?_eq_getElem hi, Option.any_some]
   cases bad3 x x.Joints[i] <;> cases bad4 x i x.Joints[i] <;> rfl
  ·refine firstO_congr (fun i hi => ?_) (fun _ => ?_)
   ·have := h3 i hi
    simp only [List.getElem?_eq_getElem hi, Option.any_some] at this ⊢
    revert this
    cases bad3 x x.Joints[i] <;> cases bad4 x i x.Joints[i] <;> simp
   ·obtain ⟨r, hr⟩ := firstO_is x.Pieces.length (fun i => bif bad5 x i then some (⟨5, (i : Int)⟩ : Fault) else none) (e := some ⟨0, 0⟩) ⟨_, rfl⟩
    rw [hr]; rfl
def jnamesOf (x : Net) (i : Nat) : List (ByteArray × Bool) := (x.Joints.take i).foldl (fun m c => bif !decide (c.Kind ≤ (2:Int)) then mset c.Name true m else m) []
theorem named_empty : namedB ({ data := #[] } : ByteArray) = false := by decide
theorem impl_joint3 {x : Net} (hs : smNet x) {i : Nat} (hi : i < x.Joints.length) : f60_L2 x (i : Int) = some ((bif (x.Joints[i]?).any (bad3 x) then some (⟨3, (i : Int)⟩ : Fault) else none).elim (.inl ((i + 1 : Nat) : Int)) .inr) := by
 have hl := hs.2.1
 obtain ⟨c, hc⟩ : ∃ c, x.Joints[i]? = some c := ⟨_, List.getElem?_eq_getElem hi⟩
 have hel : c.Ends.length ≤ 1048576 := (hs.2.2 c (List.mem_of_getElem? hc)).1
 have hL : loopO (f60_L3 x (i : Int) c) (0 : Int) = some (bif c.Ends.any (fun e => !okE x e) then .inr ⟨3, (i : Int)⟩ else .inl ((i + 1 : Nat) : Int)) := by
  refine (loop_find c.Ends.length (fun j => (j : Int)) (fun j => bif (c.Ends[j]?).any (fun e => !okE x e) then some (.inr ⟨3, (i : Int)⟩) else none) (some (.inl ((i + 1 : Nat) : Int))) (fun j hj _ => ?_) (fun _ => ?_)).trans ?_
  ·unfold f60_L3
   have hb : (((decide (c.Ends[j].Piece < (0:Int)) || decide (c.Ends[j].Piece ≥ (x.Pieces.length : Int))) || decide (c.Ends[j].Side < (0:Int))) || decide (c.Ends[j].Side > (1:Int))) = !okE x c.Ends[j] := by
    unfold okE
    rw [Bool.eq_iff_iff]; simp; omega
   simp only [lt_t hj, cond_true, getI_nat, List.getElem?_eq_getElem hj, Option.bind_some, hb, w64_nat (show j < 9223372036854775807 by omega), Option.any_some]
   cases okE x c.Ends[j] <;> rfl
  ·unfold f60_L3
   simp only [lt_f, cond_false, w64_nat (show i < 9223372036854775807 by omega)]
  ·rw [firstO_any, range_any_take, List.take_length, cond_some]
 unfold f60_L2
 simp only [lt_t hi, cond_true, getI_nat, hc, Option.bind_some, hL, Option.any_some]
 unfold bad3
 cases (decide (c.Kind < (1:Int)) || decide (c.Kind > (4:Int))) <;> cases ((c.Ends.length : Int) != c.Kind) <;> cases (c.Ends.any fun e => !okE x e) <;> rfl
theorem impl_joint4 {x : Net} (hx : fitNet x) (hs : smNet x) {i : Nat} (hi : i < x.Joints.length) (hb : ∀ j, j < i → (bif (x.Joints[j]?).any (bad4 x j) then some (⟨4, (j : Int)⟩ : Fault) else none) = none) : f60_L4 x (jnamesOf x i, (i : Int)) = some ((bif (x.Joints[i]?).any (bad4 x i) then some (⟨4, (i : Int)⟩ : Fault) else none).elim (.inl (jnamesOf x (i + 1), ((i + 1 : Nat) : Int))) .inr) := by
 have hl := hs.2.1
 obtain ⟨c, hc⟩ : ∃ c, x.Joints[i]? = some c := ⟨_, List.getElem?_eq_getElem hi⟩
 have hf := hx.2.2 c (List.mem_of_getElem? hc)
 have hn : jnamesOf x (i + 1) = bif !decide (c.Kind ≤ (2:Int)) then mset c.Name true (jnamesOf x i) else jnamesOf x i := foldl_take _ _ hc
 have hm : mget c.Name (jnamesOf x i) false = (x.Joints.take i).any fun d => (!decide (d.Kind ≤ (2:Int))) && decide (d.Name = c.Name) := by
  unfold jnamesOf
  rw [mget_keys (fun d : Joint => !decide (d.Kind ≤ (2:Int))) (fun d : Joint => d.Name)]
 have ha : namedB c.Name = true → ((x.Joints.take i).any fun d => (!decide (d.Kind ≤ (2:Int))) && decide (d.Name = c.Name)) = (x.Joints.take i).any fun d => decide (d.Name = c.Name) := by
  intro hn
  rw [← range_any_take, ← range_any_take, Bool.eq_iff_iff, List.any_eq_true, List.any_eq_true]
  constructor
  ·rintro ⟨j, hj, h⟩
   refine ⟨j, hj, ?_⟩
   cases hd : x.Joints[j]? with
   | none => rw [hd] at h; cases h
   | some d => rw [hd] at h; simp only [Option.any_some, Bool.and_eq_true] at h ⊢; exact h.2
  ·rintro ⟨j, hj, h⟩
   refine ⟨j, hj, ?_⟩
   have hbj := hb j (List.mem_range.1 hj)
   cases hd : x.Joints[j]? with
   | none => rw [hd] at h; cases h
   | some d =>
    rw [hd] at h hbj
    simp only [Option.any_some, Bool.and_eq_true] at h hbj ⊢
    refine ⟨?_, h⟩
    cases hk : decide (d.Kind ≤ (2:Int)) with
    | false => rfl
    | true =>
     exfalso
     unfold bad4 at hbj
     rw [hk, cond_true] at hbj
     simp only [decide_eq_true_eq] at h
     rw [h] at hbj
     cases he : decide (c.Name = ({ data := #[] } : ByteArray)) with
     | false => rw [he] at hbj; simp at hbj
     | true =>
      simp only [decide_eq_true_eq] at he
      rw [he, named_empty] at hn
      cases hn
 unfold f60_L4 f60_k5
 simp only [lt_t hi, cond_true, getI_nat, hc, Option.bind_some, named_eq hf.2.1, hm, Option.any_some, str_eq, w64_nat (show i < 9223372036854775807 by omega), hn]
 unfold bad4
 cases decide (c.Kind ≤ (2:Int)) with
 | true => cases decide (c.Name = ({ data := #[] } : ByteArray)) <;> rfl
 | false =>
  cases hn : namedB c.Name with
  | false => rfl
  | true =>
   rw [ha hn]
   cases ((x.Joints.take i).any fun d => decide (d.Name = c.Name)) <;> rfl
def countsOf (x : Net) : List (End × Int) := (endsOf x).foldl (fun m e => mset e (w64 (mget e m 0 + 1)) m) []
theorem impl_ends {x : Net} (hs : smNet x) : loopO (f60_L6 x) (([] : List (End × Int)), (0:Int)) = firstO x.Pieces.length (fun i => bif bad5 x i then some ⟨5, (i : Int)⟩ else none) (some ⟨0, 0⟩) := by
 have hl := hs.2.1
 have hp := hs.1.1
 refine (loop_fold x.Joints (fun m (c : Joint) => c.Ends.foldl (fun m e => mset e (w64 (mget e m 0 + 1)) m) m) [] (fun m => loopO (f60_L8 x m) (0:Int)) (fun a i c hc => ?_) (fun a => ?_)).trans ?_
 ·have hi := get_lt hc
  have hel : c.Ends.length ≤ 1048576 := (hs.2.2 c (List.mem_of_getElem? hc)).1
  unfold f60_L6
  simp only [lt_t hi, cond_true, getI_nat, hc, Option.bind_some]
  refine (loop_fold c.Ends (fun m e => mset e (w64 (mget e m 0 + 1)) m) a (fun a => (some (.inl (a, ((i + 1 : Nat) : Int))) : Option ((List (End × Int) × Int) ⊕ Fault))) (fun b j y hy => ?_) (fun b => ?_))
  ·have hj := get_lt hy
   unfold f60_L7
   simp only [lt_t hj, cond_true, getI_nat, hy, Option.bind_some, w64_nat (show j < 9223372036854775807 by omega)]
  ·unfold f60_L7
   simp only [lt_f, cond_false, w64_nat (show i < 9223372036854775807 by omega)]
 ·unfold f60_L6
  simp only [lt_f, cond_false]
 ·have he : x.Joints.foldl (fun m (c : Joint) => c.Ends.foldl (fun m e => mset e (w64 (mget e m 0 + 1)) m) m) [] = countsOf x := by
   unfold countsOf endsOf
   rw [List.foldl_flatMap]
  have hu : ∀ e, mget e (countsOf x) 0 = usesOf x e := fun e => mget_counts _ _
  rw [he]
  refine loop_find x.Pieces.length (fun i => (i : Int)) _ _ (fun i hi _ => ?_) (fun _ => ?_)
  ·unfold f60_L8
   simp only [lt_t hi, cond_true, hu, w64_nat (show i < 9223372036854775807 by omega)]
   unfold bad5
   cases ((usesOf x ⟨(i : Int), 0⟩ != 1) || (usesOf x ⟨(i : Int), 1⟩ != 1)) <;> rfl
  ·unfold f60_L8
   simp only [lt_f, cond_false]
theorem impl_net {x : Net} (hx : fitNet x) (hs : smNet x) : f60 x = netO x := by
 have hl := hs.1.1
 have hl2 := hs.2.1
 unfold f60 netO
 cases ((((x.Pieces.length : Int) == (0:Int)) || decide ((x.Pieces.length : Int) > (100:Int))) || decide ((x.Joints.length : Int) > (120:Int))) with
 | true => rfl
 | false =>
  rw [cond_false, cond_false]
  refine loop_find x.Pieces.length (fun i => (namesOf x i, (i : Int))) _ _ (fun i hi _ => impl_piece hx hs hi) (fun _ => ?_)
  unfold f60_L1
  simp only [lt_f, cond_false]
  congr 1
  refine loop_find x.Joints.length (fun i => (i : Int)) _ _ (fun i hi _ => impl_joint3 hs hi) (fun _ => ?_)
  unfold f60_L2
  simp only [lt_f, cond_false]
  congr 1
  refine loop_find x.Joints.length (fun i => (jnamesOf x i, (i : Int))) _ _ (fun i hi hb => impl_joint4 hx hs hi hb) (fun _ => ?_)
  unfold f60_L4
  simp only [lt_f, cond_false]
  congr 1
  exact impl_ends hs
theorem netO_code {x : Net} {r : Fault} (h : netO x = some r) : ((r.Code == 0) && ((r.At == 0) && true)) = (r.Code == 0) := by
 have key : r = ⟨0, 0⟩ ∨ (r.Code == 0) = false := by
  unfold netO at h
  cases hc : ((((x.Pieces.length : Int) == (0:Int)) || decide ((x.Pieces.length : Int) > (100:Int))) || decide ((x.Joints.length : Int) > (120:Int))) with
  | true => rw [hc] at h; simp only [cond_true, Option.some.injEq] at h; subst h; exact .inr rfl
  | false =>
   rw [hc, cond_false] at h
   rcases firstO_mem h with ⟨i, _, hi⟩ | ⟨_, h⟩
   ·rw [← (bif_some hi).2]; exact .inr rfl
   rcases firstO_mem h with ⟨i, _, hi⟩ | ⟨_, h⟩
   ·rw [← (bif_some hi).2]; exact .inr rfl
   rcases firstO_mem h with ⟨i, _, hi⟩ | ⟨_, h⟩
   ·rw [← (bif_some hi).2]; exact .inr rfl
   rcases firstO_mem h with ⟨i, _, hi⟩ | ⟨_, h⟩
   ·rw [← (bif_some hi).2]; exact .inr rfl
   exact .inl (by simpa using h.symm)
 rcases key with rfl | h
 ·rfl
 ·rw [h]; rfl
def goodNet (x : Net) : Bool := (netO x).any fun r => r.Code == 0
structure NetFacts (x : Net) : Prop where
 pos : 0 < x.Pieces.length
 le : x.Pieces.length ≤ 100
 jle : x.Joints.length ≤ 120
 p : ∀ i, i < x.Pieces.length → badP x i = false
 j3 : ∀ i, i < x.Joints.length → (x.Joints[i]?).any (bad3 x) = false
 j4 : ∀ i, i < x.Joints.length → (x.Joints[i]?).any (bad4 x i) = false
 e : ∀ i, i < x.Pieces.length → bad5 x i = false
theorem good_facts {x : Net} (h : goodNet x = true) : NetFacts x := by
 obtain ⟨r, hr⟩ := netO_is x
 unfold goodNet at h
 rw [hr] at h
 simp only [Option.any_some, beq_iff_eq] at h
 have h2 := hr
 unfold netO at h2
 cases hc : ((((x.Pieces.length : Int) == (0:Int)) || decide ((x.Pieces.length : Int) > (100:Int))) || decide ((x.Joints.length : Int) > (120:Int))) with
 | true => rw [hc] at h2; simp only [cond_true, Option.some.injEq] at h2; subst h2; cases h
 | false =>
  rw [hc, cond_false] at h2
  rcases firstO_mem h2 with ⟨i, _, hi⟩ | ⟨h3, h2⟩
  ·rw [← (bif_some hi).2] at h; cases h
  rcases firstO_mem h2 with ⟨i, _, hi⟩ | ⟨h4, h2⟩
  ·rw [← (bif_some hi).2] at h; cases h
  rcases firstO_mem h2 with ⟨i, _, hi⟩ | ⟨h5, h2⟩
  ·rw [← (bif_some hi).2] at h; cases h
  rcases firstO_mem h2 with ⟨i, _, hi⟩ | ⟨h6, h2⟩
  ·rw [← (bif_some hi).2] at h; cases h
  simp only [Bool.or_eq_false_iff, beq_eq_false_iff_ne, decide_eq_false_iff_not] at hc
  exact ⟨by omega, by omega, by omega, fun i hi => bif_none (h3 i hi), fun i hi => bif_none (h4 i hi), fun i hi => bif_none (h5 i hi), fun i hi => bif_none (h6 i hi)⟩
theorem good_piece {x : Net} (h : goodNet x = true) {i : Nat} {p : Piece} (hp : x.Pieces[i]? = some p) : okP p = true := by
 have := (good_facts h).p i (get_lt hp)
 unfold badP at this
 rw [hp] at this
 simp only [Option.any_some, Bool.or_eq_false_iff, Bool.not_eq_false'] at this
 exact this.1
theorem good_eq {x : Net} (hx : fitNet x) (hs : smNet x) : f44 x = some (goodNet x) := by
 obtain ⟨r, hr⟩ := netO_is x
 unfold f44 goodNet
 rw [impl_net hx hs, hr, Option.bind_some, netO_code hr]; rfl
theorem l22ok_eq {x : Net} (hx : fitNet x) (hs : smNet x) : f38 x = some (goodNet x) := by
 obtain ⟨r, hr⟩ := netO_is x
 unfold f38 goodNet
 rw [spec_net hx hs, hr]; rfl
theorem in22_eq (x a b : Int) : f57 x a b = some (decide (x ≥ a) && decide (x ≤ b)) := rfl
theorem within_eq (x a b : Int) : f62 x a b = some (decide (x ≥ a) && decide (x ≤ b)) := rfl
theorem nat_of {p : Int} {n : Nat} (h0 : 0 ≤ p) (h1 : p < (n : Int)) : ∃ k : Nat, p = (k : Int) ∧ k < n := ⟨p.toNat, by omega, by omega⟩
theorem piece_cases {n : Net} (hg : goodNet n = true) (q : Int) : (decide (q ≥ (0:Int)) && decide (q < (n.Pieces.length : Int))) = false ∨ ∃ (k : Nat) (p : Piece), q = (k : Int) ∧ n.Pieces[k]? = some p ∧ 1 ≤ p.Len ∧ p.Len ≤ 10000000 ∧ (decide (q ≥ (0:Int)) && decide (q < (n.Pieces.length : Int))) = true := by
 cases h : (decide (q ≥ (0:Int)) && decide (q < (n.Pieces.length : Int))) with
 | false => exact .inl rfl
 | true =>
  simp only [Bool.and_eq_true, decide_eq_true_eq] at h
  obtain ⟨k, hk, hl⟩ := nat_of h.1 h.2
  have hp := List.getElem?_eq_getElem hl
  have ho := good_piece hg hp
  unfold okP at ho
  simp only [Bool.and_eq_true, decide_eq_true_eq] at ho
  exact .inr ⟨k, _, hk, hp, ho.1.1.1.1.1.2, ho.1.1.1.1.2, rfl⟩
def endsAt (n : Net) (j : Nat) : List End := ((n.Joints[j]?).map (·.Ends)).getD []
def atIn (n : Net) (e : End) (j : Nat) : Option (Int × Int) := firstO (endsAt n j).length (fun k => bif ((endsAt n j)[k]?).any (fun x => decide (x = e)) then some ((j : Int), (k : Int)) else none) none
def atO (n : Net) (e : End) : Option (Int × Int) := firstO n.Joints.length (atIn n e) (some (-1, -1))
theorem endsAt_some {n : Net} {j : Nat} {c : Joint} (hc : n.Joints[j]? = some c) : endsAt n j = c.Ends := by unfold endsAt; rw [hc]; rfl
theorem spec_at {n : Net} (hs : smNet n) (e : End) : f73 n e = atO n e := by
 have hl := hs.2.1
 unfold f73
 refine loop_find n.Joints.length (fun j => (j : Int)) _ _ (fun j hj _ => ?_) (fun _ => ?_)
 ·have hc := List.getElem?_eq_getElem hj
  have hel : n.Joints[j].Ends.length ≤ 1048576 := (hs.2.2 _ (List.mem_of_getElem? hc)).1
  unfold f73_L1
  simp only [lt_t hj, cond_true, getI_nat, hc, Option.bind_some]
  unfold atIn
  rw [endsAt_some hc, ← firstO_elim]
  refine loop_find n.Joints[j].Ends.length (fun k => (k : Int)) _ _ (fun k hk _ => ?_) (fun _ => ?_)
  ·unfold f73_L2
   simp only [lt_t hk, cond_true, getI_nat, List.getElem?_eq_getElem hk, Option.bind_some, end_is, Option.any_some, w64_nat (show k < 9223372036854775807 by omega)]
   cases decide (n.Joints[j].Ends[k] = e) <;> rfl
  ·unfold f73_L2
   simp only [lt_f, cond_false, w64_nat (show j < 9223372036854775807 by omega)]
 ·unfold f73_L1
  simp only [lt_f, cond_false]
theorem end_si (a b : End) : ((b.Piece == a.Piece) && ((b.Side == a.Side) && true)) = decide (a = b) := by
 rw [end_is, Bool.eq_iff_iff]
 simp only [decide_eq_true_eq]
 exact eq_comm
theorem impl_at {n : Net} (hs : smNet n) (e : End) : f79 n e = atO n e := by
 have hl := hs.2.1
 unfold f79
 refine loop_find n.Joints.length (fun j => (j : Int)) _ _ (fun j hj _ => ?_) (fun _ => ?_)
 ·have hc := List.getElem?_eq_getElem hj
  have hel : n.Joints[j].Ends.length ≤ 1048576 := (hs.2.2 _ (List.mem_of_getElem? hc)).1
  unfold f79_L1
  simp only [lt_t hj, cond_true, getI_nat, hc, Option.bind_some]
  unfold atIn
  rw [endsAt_some hc, ← firstO_elim]
  refine loop_find n.Joints[j].Ends.length (fun k => (k : Int)) _ _ (fun k hk _ => ?_) (fun _ => ?_)
  ·unfold f79_L2
   simp only [lt_t hk, cond_true, getI_nat, List.getElem?_eq_getElem hk, Option.bind_some, end_si, Option.any_some, w64_nat (show k < 9223372036854775807 by omega)]
   cases decide (n.Joints[j].Ends[k] = e) <;> rfl
  ·unfold f79_L2
   simp only [lt_f, cond_false, w64_nat (show j < 9223372036854775807 by omega)]
 ·unfold f79_L1
  simp only [lt_f, cond_false]
theorem uses_zero {e : End} : ∀ (xs : List End) (a : Int), (∀ x ∈ xs, x ≠ e) → xs.foldl (fun a x => bif decide (x = e) then w64 (a + 1) else a) a = a
 | [], _, _ => rfl
 | x :: xs, a, h => by
  rw [List.foldl_cons, decide_eq_false (h x (List.mem_cons_self ..)), cond_false]
  exact uses_zero xs a (fun y hy => h y (List.mem_cons_of_mem _ hy))
def sideE (k : Nat) (b : Bool) : End := ⟨(k : Int), if b then 1 else 0⟩
theorem good_end {n : Net} (hg : goodNet n = true) {k : Nat} (hk : k < n.Pieces.length) (b : Bool) : sideE k b ∈ endsOf n := by
 have h5 := (good_facts hg).e k hk
 unfold bad5 at h5
 simp only [Bool.or_eq_false_iff, bne_eq_false_iff_eq] at h5
 have hu : usesOf n (sideE k b) = 1 := by cases b; exact h5.1; exact h5.2
 refine Classical.byContradiction fun hn => ?_
 have := uses_zero (e := sideE k b) (endsOf n) 0 (fun x hx e => hn (e ▸ hx))
 unfold usesOf at hu
 rw [this] at hu
 cases hu
theorem at_good {n : Net} (hg : goodNet n = true) {k : Nat} (hk : k < n.Pieces.length) (b : Bool) : ∃ (j m : Nat) (c : Joint), atO n (sideE k b) = some ((j : Int), (m : Int)) ∧ n.Joints[j]? = some c ∧ c.Ends[m]? = some (sideE k b) := by
 obtain ⟨r, hr⟩ : ∃ r, atO n (sideE k b) = some r := firstO_is _ _ ⟨_, rfl⟩
 rcases firstO_mem hr with ⟨j, hj, h⟩ | ⟨h, _⟩
 ·obtain ⟨c, hc⟩ : ∃ c, n.Joints[j]? = some c := ⟨_, List.getElem?_eq_getElem hj⟩
  unfold atIn at h
  rw [endsAt_some hc] at h
  rcases firstO_mem h with ⟨m, hm, h⟩ | ⟨_, h⟩
  ·obtain ⟨h1, h2⟩ := bif_some h
   refine ⟨j, m, c, by rw [hr, ← h2], hc, ?_⟩
   rw [List.getElem?_eq_getElem hm] at h1 ⊢
   simp only [Option.any_some, decide_eq_true_eq] at h1
   rw [h1]
  ·cases h
 ·exfalso
  have hm := good_end hg hk b
  unfold endsOf at hm
  obtain ⟨c, hc, he⟩ := List.mem_flatMap.1 hm
  obtain ⟨j, hj, hcj⟩ := List.getElem_of_mem hc
  obtain ⟨m, hm, hem⟩ := List.getElem_of_mem he
  have hc2 : n.Joints[j]? = some c := by rw [List.getElem?_eq_getElem hj, hcj]
  have h1 := h j hj
  unfold atIn at h1
  rw [endsAt_some hc2] at h1
  have h2 := firstO_no h1 m hm
  have h3 := bif_none h2
  rw [List.getElem?_eq_getElem hm, hem] at h3
  simp at h3
theorem joint_ok {n : Net} (hg : goodNet n = true) {j : Nat} {c : Joint} (hc : n.Joints[j]? = some c) : (1 ≤ c.Kind ∧ c.Kind ≤ 4) ∧ (c.Ends.length : Int) = c.Kind ∧ ∀ e ∈ c.Ends, okE n e = true := by
 have h := (good_facts hg).j3 j (get_lt hc)
 rw [hc, Option.any_some] at h
 unfold bad3 at h
 simp only [Bool.or_eq_false_iff, decide_eq_false_iff_not, bne_eq_false_iff_eq, List.any_eq_false, Bool.not_eq_true', Bool.not_eq_false] at h
 exact ⟨by omega, h.1.2, h.2⟩
def endD (c : Joint) (i : Nat) : End := c.Ends.getD i ⟨0, 0⟩
def acrossL (c : Joint) (k : Nat) : List End :=
 if c.Kind = 2 then [endD c (1 - k)] else if c.Kind = 3 then (if k = 0 then [endD c 1, endD c 2] else [endD c 0]) else if c.Kind = 4 then [endD c ([1, 0, 3, 2].getD k 0)] else []
def howL (c : Joint) (k : Nat) : List Int :=
 if c.Kind = 2 then [0] else if c.Kind = 3 then (if k = 0 then [1, 2] else [(k : Int)]) else if c.Kind = 4 then [0] else []
theorem joint_forms {c : Joint} (h : (1 ≤ c.Kind ∧ c.Kind ≤ 4) ∧ (c.Ends.length : Int) = c.Kind) : (∃ a b, c = ⟨1, a, [b]⟩) ∨ (∃ a b d, c = ⟨2, a, [b, d]⟩) ∨ (∃ a b d e, c = ⟨3, a, [b, d, e]⟩) ∨ ∃ a b d e f, c = ⟨4, a, [b, d, e, f]⟩ := by
 obtain ⟨K, N, E⟩ := c
 simp only [] at h
 match E, h with
 | [], ⟨h1, h2⟩ => simp only [List.length_nil] at h2; omega
 | [b], ⟨h1, h2⟩ => simp only [List.length_cons, List.length_nil] at h2; have : K = 1 := (by omega); subst this; exact .inl ⟨N, b, rfl⟩
 | [b, d], ⟨h1, h2⟩ => simp only [List.length_cons, List.length_nil] at h2; have : K = 2 := (by omega); subst this; exact .inr (.inl ⟨N, b, d, rfl⟩)
 | [b, d, e], ⟨h1, h2⟩ => simp only [List.length_cons, List.length_nil] at h2; have : K = 3 := (by omega); subst this; exact .inr (.inr (.inl ⟨N, b, d, e, rfl⟩))
 | [b, d, e, f], ⟨h1, h2⟩ => simp only [List.length_cons, List.length_nil] at h2; have : K = 4 := (by omega); subst this; exact .inr (.inr (.inr ⟨N, b, d, e, f, rfl⟩))
 | b :: d :: e :: f :: g :: r, ⟨h1, h2⟩ => simp only [List.length_cons] at h2; omega
theorem across_eq {c : Joint} (h : (1 ≤ c.Kind ∧ c.Kind ≤ 4) ∧ (c.Ends.length : Int) = c.Kind) {k : Nat} (hk : k < c.Ends.length) : f75 c (k : Int) = some (acrossL c k) := by
 rcases joint_forms h with ⟨a, b, rfl⟩ | ⟨a, b, d, rfl⟩ | ⟨a, b, d, e, rfl⟩ | ⟨a, b, d, e, f, rfl⟩
 ·rfl
 ·match k, hk with
  | 0, _ => rfl
  | 1, _ => rfl
 ·match k, hk with
  | 0, _ => rfl
  | 1, _ => rfl
  | 2, _ => rfl
 ·match k, hk with
  | 0, _ => rfl
  | 1, _ => rfl
  | 2, _ => rfl
  | 3, _ => rfl
theorem over_eq {n : Net} (hs : smNet n) (hg : goodNet n = true) {e : End} {j k : Nat} {c : Joint} (ha : atO n e = some ((j : Int), (k : Int))) (hc : n.Joints[j]? = some c) (hk : k < c.Ends.length) : f63 n e = some (acrossL c k, howL c k) := by
 have h := joint_ok hg hc
 unfold f63
 rw [impl_at hs, ha]
 have hj : decide (((j : Nat) : Int) < (0:Int)) = false := by rw [decide_eq_false_iff_not]; omega
 simp only [Option.bind_some, hj, cond_false, getI_nat, hc]
 rcases joint_forms ⟨h.1, h.2.1⟩ with ⟨a, b, rfl⟩ | ⟨a, b, d, rfl⟩ | ⟨a, b, d, e, rfl⟩ | ⟨a, b, d, e, f, rfl⟩
 ·rfl
 ·match k, hk with
  | 0, _ => rfl
  | 1, _ => rfl
 ·match k, hk with
  | 0, _ => rfl
  | 1, _ => rfl
  | 2, _ => rfl
 ·match k, hk with
  | 0, _ => rfl
  | 1, _ => rfl
  | 2, _ => rfl
  | 3, _ => rfl
theorem across_len (c : Joint) (k : Nat) : (acrossL c k).length ≤ 2 := by
 unfold acrossL
 split
 ·simp
 ·split
  ·split <;> simp
  ·split <;> simp
def overL (n : Net) (e : End) : List End := match atO n e with | some (j, k) => (match n.Joints[j.toNat]? with | some c => acrossL c k.toNat | none => []) | none => []
def overH (n : Net) (e : End) : List Int := match atO n e with | some (j, k) => (match n.Joints[j.toNat]? with | some c => howL c k.toNat | none => []) | none => []
theorem overL_is {n : Net} {e : End} {j k : Nat} {c : Joint} (ha : atO n e = some ((j : Int), (k : Int))) (hc : n.Joints[j]? = some c) : overL n e = acrossL c k ∧ overH n e = howL c k := by
 unfold overL overH
 rw [ha]
 simp only [Int.toNat_natCast, hc, and_self]
theorem overL_len (n : Net) (e : End) : (overL n e).length ≤ 2 := by
 unfold overL
 split
 ·split
  ·exact across_len _ _
  ·simp
 ·simp
def lookE (p w : Int) : End := bif w == 1 then ⟨p, 1⟩ else ⟨p, 0⟩
theorem head_eq (p w : Int) : f74 p w = some (lookE p w) := by
 unfold f74 lookE
 cases w == 1 <;> rfl
theorem looked_eq (p w : Int) : f80 p w = some (lookE p w) := by
 unfold f80 lookE
 cases w == 1 <;> rfl
theorem look_side (k : Nat) (w : Int) : lookE (k : Int) w = sideE k (w == 1) := by
 unfold lookE sideE
 cases w == 1 <;> rfl
theorem at_look {n : Net} (hg : goodNet n = true) {k : Nat} (hk : k < n.Pieces.length) (w : Int) : ∃ (j m : Nat) (c : Joint), atO n (lookE (k : Int) w) = some ((j : Int), (m : Int)) ∧ n.Joints[j]? = some c ∧ c.Ends[m]? = some (lookE (k : Int) w) := by
 rw [look_side]; exact at_good hg hk _
theorem over_good {n : Net} (hs : smNet n) (hg : goodNet n = true) {k : Nat} (hk : k < n.Pieces.length) (w : Int) : f63 n (lookE (k : Int) w) = some (overL n (lookE (k : Int) w), overH n (lookE (k : Int) w)) := by
 obtain ⟨j, m, c, ha, hc, hm⟩ := at_look hg hk w
 rw [over_eq hs hg ha hc (get_lt hm), (overL_is ha hc).1, (overL_is ha hc).2]
theorem joined_eq {n : Net} (hs : smNet n) (hg : goodNet n = true) {a b : Step} {k : Nat} (hak : a.Piece = (k : Int)) (hk : k < n.Pieces.length) : f58 n a b = some ((overL n (lookE a.Piece a.Way)).any fun y => decide (y = lookE b.Piece (w64 (0 - b.Way)))) := by
 obtain ⟨j, m, c, ha, hc, hm⟩ := at_look hg hk a.Way
 have ho := joint_ok hg hc
 have hl := across_len c m
 unfold f58
 rw [hak]
 simp only [head_eq, spec_at hs, ha, Option.bind_some, getI_nat, hc, across_eq ⟨ho.1, ho.2.1⟩ (get_lt hm)]
 rw [(overL_is ha hc).1]
 refine loop_any (acrossL c m) _ (fun i y hy => ?_) ?_
 ·have hi := get_lt hy
  unfold f58_L1
  simp only [lt_t hi, cond_true, getI_nat, hy, Option.bind_some, end_is, w64_nat (show i < 9223372036854775807 by omega)]
  cases decide (y = lookE b.Piece (w64 (0 - b.Way))) <;> rfl
 ·unfold f58_L1
  simp only [lt_f, cond_false, Option.map_some]
theorem containsE {xs : List End} (hl : xs.length ≤ 1048576) (v : End) : f65 xs v = some (xs.any fun y => decide (y = v)) := by
 unfold f65 f81
 have h1 : loopO (f81_L1 xs v) (0 : Int) = firstO xs.length (fun i => bif (xs[i]?).any (fun y => decide (y = v)) then some (i : Int) else none) (some (-1)) := by
  refine loop_find xs.length (fun i => (i : Int)) _ _ (fun i hi _ => ?_) (fun _ => ?_)
  ·unfold f81_L1
   simp only [lt_t hi, cond_true, getI_nat, List.getElem?_eq_getElem hi, Option.bind_some, end_si, Option.any_some, w64_nat (show i < 9223372036854775807 by omega)]
   cases decide (xs[i] = v) <;> rfl
  ·unfold f81_L1
   simp only [lt_f, cond_false]
 rw [h1]
 obtain ⟨r, hr⟩ := firstO_is xs.length (fun i => bif (xs[i]?).any (fun y => decide (y = v)) then some (i : Int) else none) (e := some (-1)) ⟨_, rfl⟩
 rw [hr, Option.bind_some]
 have ht := range_any_take xs (fun y => decide (y = v)) xs.length
 rw [List.take_length] at ht
 rw [← ht]
 rcases firstO_mem hr with ⟨i, hi, h⟩ | ⟨h, h2⟩
 ·obtain ⟨h3, rfl⟩ := bif_some h
  congr 1
  rw [Bool.eq_iff_iff, decide_eq_true_eq, List.any_eq_true]
  exact ⟨fun _ => ⟨i, List.mem_range.2 hi, h3⟩, fun _ => by omega⟩
 ·have : r = -1 := by simpa using h2.symm
  subst this
  congr 1
  rw [Bool.eq_iff_iff, decide_eq_true_eq, List.any_eq_true]
  constructor
  ·intro h; omega
  ·rintro ⟨i, hi, h3⟩
   have := bif_none (h i (List.mem_range.1 hi))
   rw [h3] at this; cases this
def wayB (w : Int) : Bool := (w == (1:Int)) || (w == (-1:Int))
def spotB (n : Net) (s : Spot) : Bool := ((decide (s.Piece ≥ (0:Int)) && decide (s.Piece < (n.Pieces.length : Int))) && wayB s.Way) && (n.Pieces[s.Piece.toNat]?).any fun p => decide (s.At ≥ (0:Int)) && decide (s.At ≤ p.Len)
theorem spec_spot {n : Net} (hg : goodNet n = true) (s : Spot) : f56 n s = some (spotB n s) := by
 have hn := (good_facts hg).le
 unfold f56 spotB
 simp only [in22_eq, Option.bind_some, cond_some, le_pred (y := s.Piece) (n := (n.Pieces.length : Int)) (by omega)]
 rw [show ((s.Way == (1:Int)) || (s.Way == (-1:Int))) = wayB s.Way from rfl]
 rcases piece_cases hg s.Piece with h | ⟨k, p, hk, hp, h1, h2, h⟩
 ·rw [h]; rfl
 ·rw [h, hk]
  simp only [getI_nat, hp, Option.bind_some, Int.toNat_natCast, Option.any_some]
  cases wayB s.Way <;> rfl
theorem impl_spot {n : Net} (hg : goodNet n = true) (s : Spot) : f61 n s = some (spotB n s) := by
 have hn := (good_facts hg).le
 unfold f61 spotB
 simp only [within_eq, Option.bind_some, cond_some, le_pred (y := s.Piece) (n := (n.Pieces.length : Int)) (by omega)]
 rcases piece_cases hg s.Piece with h | ⟨k, p, hk, hp, h1, h2, h⟩
 ·rw [h]; rfl
 ·rw [h, hk]
  simp only [getI_nat, hp, Option.bind_some, Int.toNat_natCast, Option.any_some, cond_true]
  rw [show ((s.Way == (1:Int)) || (s.Way == (-1:Int))) = wayB s.Way from rfl]
  cases wayB s.Way <;> simp
theorem wayB_or {w : Int} (h : wayB w = true) : w = 1 ∨ w = -1 := by
 unfold wayB at h
 simpa using h
theorem spot_facts {n : Net} (hg : goodNet n = true) {s : Spot} (h : spotB n s = true) : ∃ (k : Nat) (p : Piece), s.Piece = (k : Int) ∧ n.Pieces[k]? = some p ∧ 1 ≤ p.Len ∧ p.Len ≤ 10000000 ∧ (s.Way = 1 ∨ s.Way = -1) ∧ 0 ≤ s.At ∧ s.At ≤ p.Len := by
 unfold spotB at h
 simp only [Bool.and_eq_true] at h
 rcases piece_cases hg s.Piece with h1 | ⟨k, p, hk, hp, h1, h2, h3⟩
 ·rw [Bool.and_eq_false_iff] at h1
  rcases h1 with h1 | h1
  ·rw [h1] at h; exact absurd h.1.1.1 (by decide)
  ·rw [h1] at h; exact absurd h.1.1.2 (by decide)
 ·obtain ⟨h4, h5⟩ := h
  rw [hk, Int.toNat_natCast, hp] at h5
  simp only [Option.any_some, Bool.and_eq_true, decide_eq_true_eq] at h5
  exact ⟨k, p, hk, hp, h1, h2, wayB_or h4.2, h5.1, h5.2⟩
def goneF (p : Piece) (s : Spot) : Int := if s.Way = 1 then s.At else p.Len - s.At
theorem gone_eq {n : Net} {s : Spot} {k : Nat} {p : Piece} (hk : s.Piece = (k : Int)) (hp : n.Pieces[k]? = some p) (h1 : 1 ≤ p.Len) (h2 : p.Len ≤ 10000000) (h3 : 0 ≤ s.At) (h4 : s.At ≤ p.Len) : f47 n s = some (goneF p s) := by
 unfold f47 goneF
 rw [hk]
 simp only [getI_nat, hp, Option.bind_some]
 by_cases hw : s.Way = 1
 ·rw [hw]; rfl
 ·rw [if_neg hw, beq_eq_false_iff_ne.2 hw, cond_false, w64_id (by omega)]
theorem behind_eq {n : Net} {s : Spot} {k : Nat} {p : Piece} (hk : s.Piece = (k : Int)) (hp : n.Pieces[k]? = some p) (h1 : 1 ≤ p.Len) (h2 : p.Len ≤ 10000000) (h3 : 0 ≤ s.At) (h4 : s.At ≤ p.Len) : f20 n s = some (goneF p s) := by
 unfold f20 f40 goneF
 rw [hk]
 simp only [getI_nat, hp, Option.bind_some]
 by_cases hw : s.Way = 1
 ·rw [hw]
  show some (w64 (p.Len - w64 (p.Len - s.At))) = _
  rw [w64_id (x := p.Len - s.At) (by omega), w64_id (by omega), if_pos rfl]
  congr 1; omega
 ·rw [if_neg hw, beq_eq_false_iff_ne.2 hw, cond_false, Option.bind_some, w64_id (by omega)]
theorem train_step {n : Net} {t : Train} (hs : smNet n) (hg : goodNet n = true) (ht : t.Back.length ≤ 200) {i : Nat} (hi : i < t.Back.length) (a b c : Int) : f39_L1 n t (a, b, c, (i : Int)) = f45_L1 n t (a, b, c, (i : Int)) ∧ ((∃ s', f45_L1 n t (a, b, c, (i : Int)) = some (.inl s') ∧ s'.2.2.2 = ((i + 1 : Nat) : Int)) ∨ ∃ r, f45_L1 n t (a, b, c, (i : Int)) = some (.inr r)) := by
 have hn := (good_facts hg).le
 obtain ⟨x, hx⟩ : ∃ x, t.Back[i]? = some x := ⟨_, List.getElem?_eq_getElem hi⟩
 unfold f39_L1 f45_L1 f64 f66 f48
 simp only [lt_t hi, cond_true, getI_nat, hx, Option.bind_some, in22_eq, within_eq, le_pred (y := x.Piece) (n := (n.Pieces.length : Int)) (by omega), looked_eq, w64_nat (show i < 9223372036854775807 by omega)]
 rcases piece_cases hg x.Piece with h | ⟨k, p, hk, hp, h1, h2, h⟩
 ·rw [h]; exact ⟨rfl, .inr ⟨_, rfl⟩⟩
 ·rw [h]
  have hj := joined_eq hs hg (a := x) (b := ⟨a, b⟩) hk (get_lt hp)
  have ho := over_good hs hg (get_lt hp) x.Way
  rw [← hk] at ho
  rw [hj, ho]
  simp only [Option.bind_some, containsE (Nat.le_trans (overL_len n _) (by decide)), hk, getI_nat, hp]
  cases ((x.Way != (1:Int)) && (x.Way != (-1:Int)))
  ·cases decide (c ≥ t.Long)
   ·cases ((overL n (lookE (k : Int) x.Way)).any fun y => decide (y = lookE a (w64 (0 - b))))
    ·exact ⟨rfl, .inr ⟨_, rfl⟩⟩
    ·exact ⟨rfl, .inl ⟨_, rfl, rfl⟩⟩
   ·exact ⟨rfl, .inr ⟨_, rfl⟩⟩
  ·exact ⟨rfl, .inr ⟨_, rfl⟩⟩
theorem train_same {n : Net} {t : Train} (hs : smNet n) (hg : goodNet n = true) : ∃ r, f39 n t = some r ∧ f45 n t = some r := by
 unfold f39 f45
 simp only [spec_spot hg, impl_spot hg, in22_eq, within_eq, Option.bind_some, cond_some]
 cases hsp : spotB n t.Front with
 | false => exact ⟨false, rfl, rfl⟩
 | true =>
  obtain ⟨k, p, hk, hp, h1, h2, _, h3, h4⟩ := spot_facts hg hsp
  rw [behind_eq hk hp h1 h2 h3 h4, gone_eq hk hp h1 h2 h3 h4]
  simp only [Option.bind_some]
  cases (bif !true then true else !(decide (t.Long ≥ (1:Int)) && decide (t.Long ≤ (100000:Int)))) with
  | true => exact ⟨false, rfl, rfl⟩
  | false =>
   cases hb : decide ((t.Back.length : Int) > (200:Int)) with
   | true => exact ⟨false, rfl, rfl⟩
   | false =>
    simp only [decide_eq_false_iff_not] at hb
    have hb2 : t.Back.length ≤ 200 := by omega
    simp only [Bool.or_false, cond_false]
    refine loop_twin t.Back.length (fun i s => s.2.2.2 = (i : Int)) _ rfl (fun i s hi hsi => ?_) (fun s hsi => ?_)
    ·obtain ⟨a, b, c, d⟩ := s
     simp only [] at hsi
     subst hsi
     exact train_step hs hg hb2 hi a b c
    ·obtain ⟨a, b, c, d⟩ := s
     simp only [] at hsi
     subst hsi
     unfold f39_L1 f45_L1
     simp only [lt_f, cond_false]
     exact ⟨trivial, _, rfl⟩
theorem train_pieces {n : Net} {t : Train} (hs : smNet n) (hg : goodNet n = true) (h : f39 n t = some true) : t.Back.length ≤ 200 ∧ spotB n t.Front = true ∧ 1 ≤ t.Long ∧ t.Long ≤ 100000 ∧ ∀ (i : Nat) (x : Step), t.Back[i]? = some x → ∃ (k : Nat) (p : Piece), x.Piece = (k : Int) ∧ n.Pieces[k]? = some p ∧ 1 ≤ p.Len ∧ p.Len ≤ 10000000 ∧ (x.Way = 1 ∨ x.Way = -1) := by
 have hn := (good_facts hg).le
 unfold f39 at h
 simp only [spec_spot hg, in22_eq, Option.bind_some, cond_some] at h
 cases hsp : spotB n t.Front with
 | false => rw [hsp] at h; cases h
 | true =>
  rw [hsp] at h
  obtain ⟨k, p, hk, hp, h1, h2, _, h3, h4⟩ := spot_facts hg hsp
  rw [behind_eq hk hp h1 h2 h3 h4] at h
  simp only [Option.bind_some] at h
  cases hlo : (bif !true then true else !(decide (t.Long ≥ (1:Int)) && decide (t.Long ≤ (100000:Int)))) with
  | true => rw [hlo] at h; cases h
  | false =>
   rw [hlo] at h
   cases hb : decide ((t.Back.length : Int) > (200:Int)) with
   | true => rw [hb] at h; cases h
   | false =>
    rw [hb] at h
    simp only [decide_eq_false_iff_not] at hb
    simp only [Bool.not_true, cond_false, Bool.not_eq_false', Bool.and_eq_true, decide_eq_true_eq] at hlo
    simp only [Bool.or_false, cond_false] at h
    refine ⟨by omega, rfl, hlo.1, hlo.2, ?_⟩
    have key : ∀ k i a b c, i + k = t.Back.length → loopO (f39_L1 n t) (a, b, c, (i : Int)) = some true → ∀ j x, i ≤ j → t.Back[j]? = some x → ∃ (k : Nat) (p : Piece), x.Piece = (k : Int) ∧ n.Pieces[k]? = some p ∧ 1 ≤ p.Len ∧ p.Len ≤ 10000000 ∧ (x.Way = 1 ∨ x.Way = -1) := by
     intro k
     induction k with
     | zero => intro i a b c hi _ j x hj hx; have := get_lt hx; omega
     | succ k ih =>
      intro i a b c hi hr j x hj hx
      obtain ⟨y, hy⟩ : ∃ y, t.Back[i]? = some y := ⟨_, List.getElem?_eq_getElem (by omega)⟩
      rw [loopO_eq] at hr
      unfold f39_L1 at hr
      simp only [lt_t (get_lt hy), cond_true, getI_nat, hy, Option.bind_some, in22_eq, le_pred (y := y.Piece) (n := (n.Pieces.length : Int)) (by omega), w64_nat (show i < 9223372036854775807 by omega)] at hr
      rcases piece_cases hg y.Piece with hh | ⟨k2, p2, hk2, hp2, e1, e2, hh⟩
      ·rw [hh] at hr; cases hr
      ·rw [hh] at hr
       cases hw : ((y.Way != (1:Int)) && (y.Way != (-1:Int))) with
       | true => rw [hw] at hr; cases hr
       | false =>
        rw [hw] at hr
        have hway : y.Way = 1 ∨ y.Way = -1 := by
         rw [Bool.and_eq_false_iff, bne_eq_false_iff_eq, bne_eq_false_iff_eq] at hw
         exact hw
        rcases Nat.eq_or_lt_of_le hj with rfl | hlt
        ·rw [hy] at hx
         cases hx
         exact ⟨k2, p2, hk2, hp2, e1, e2, hway⟩
        ·rw [joined_eq hs hg hk2 (get_lt hp2)] at hr
         cases hc : decide (c ≥ t.Long) with
         | true => rw [hc] at hr; cases hr
         | false =>
          rw [hc] at hr
          cases hj2 : ((overL n (lookE y.Piece y.Way)).any fun q => decide (q = lookE a (w64 (0 - b)))) with
          | false => rw [hj2] at hr; cases hr
          | true =>
           rw [hj2, hk2] at hr
           simp only [getI_nat, hp2] at hr
           exact ih (i + 1) _ _ _ (by omega) hr j x hlt hx
    exact fun i x hx => key t.Back.length 0 _ _ _ (by omega) h i x (Nat.zero_le _) hx
def lenOf (n : Net) (s : Step) : Int := ((n.Pieces[s.Piece.toNat]?).map (·.Len)).getD 0
def stepOk (n : Net) (s : Step) : Prop := ∃ (k : Nat) (p : Piece), s.Piece = (k : Int) ∧ n.Pieces[k]? = some p ∧ 1 ≤ p.Len ∧ p.Len ≤ 10000000 ∧ (s.Way = 1 ∨ s.Way = -1)
theorem stepOk_len {n : Net} {s : Step} (h : stepOk n s) : ∃ p, getI n.Pieces s.Piece = some p ∧ p.Len = lenOf n s ∧ 1 ≤ lenOf n s ∧ lenOf n s ≤ 10000000 := by
 obtain ⟨k, p, h1, h2, h3, h4, _⟩ := h
 have e : lenOf n s = p.Len := by unfold lenOf; rw [h1, Int.toNat_natCast, h2]; rfl
 exact ⟨p, by rw [h1, getI_nat, h2], e.symm, by omega, by omega⟩
def backOk (n : Net) (L : Int) : Int → List Step → Prop
 | h, [] => L ≤ h
 | h, s :: r => h < L ∧ stepOk n s ∧ backOk n L (h + lenOf n s) r
theorem backOk_all {n : Net} {L : Int} : ∀ {r : List Step} {h : Int}, backOk n L h r → ∀ s ∈ r, stepOk n s
 | [], _, _, s, hs => by cases hs
 | x :: r, h, hb, s, hs => by
  rcases List.mem_cons.1 hs with rfl | hs
  ·exact hb.2.1
  ·exact backOk_all hb.2.2 s hs
structure TrainF (n : Net) (t : Train) where
 k : Nat
 p : Piece
 hk : t.Front.Piece = (k : Int)
 hp : n.Pieces[k]? = some p
 l1 : 1 ≤ p.Len
 l2 : p.Len ≤ 10000000
 way : t.Front.Way = 1 ∨ t.Front.Way = -1
 a1 : 0 ≤ t.Front.At
 a2 : t.Front.At ≤ p.Len
 b200 : t.Back.length ≤ 200
 g1 : 1 ≤ t.Long
 g2 : t.Long ≤ 100000
 back : backOk n t.Long (goneF p t.Front) t.Back
theorem goneF_le {p : Piece} {s : Spot} (h1 : 0 ≤ s.At) (h2 : s.At ≤ p.Len) : 0 ≤ goneF p s ∧ goneF p s ≤ p.Len := by
 unfold goneF
 split <;> omega
theorem train_facts {n : Net} {t : Train} (hs : smNet n) (hg : goodNet n = true) (h : f39 n t = some true) : Nonempty (TrainF n t) := by
 obtain ⟨h200, hsp, hl1, hl2, hps⟩ := train_pieces hs hg h
 obtain ⟨k, p, hk, hp, h1, h2, hw, h3, h4⟩ := spot_facts hg hsp
 refine ⟨⟨k, p, hk, hp, h1, h2, hw, h3, h4, h200, hl1, hl2, ?_⟩⟩
 have hgo := goneF_le h3 h4
 have hn := (good_facts hg).le
 unfold f39 at h
 simp only [spec_spot hg, in22_eq, Option.bind_some, cond_some, hsp, behind_eq hk hp h1 h2 h3 h4] at h
 have e1 : (bif !true then true else !(decide (t.Long ≥ (1:Int)) && decide (t.Long ≤ (100000:Int)))) = false := by
  simp [hl1, hl2]
 have e2 : decide ((t.Back.length : Int) > (200:Int)) = false := by simp; omega
 rw [e1, e2] at h
 simp only [Bool.or_false, cond_false] at h
 have key : ∀ (r : List Step) (i : Nat) (a b c : Int), t.Back.drop i = r → i + r.length = t.Back.length → 0 ≤ c → c ≤ 10000000 * (i + 1 : Nat) → loopO (f39_L1 n t) (a, b, c, (i : Int)) = some true → backOk n t.Long c r := by
  intro r
  induction r with
  | nil =>
   intro i a b c hr hi hc1 hc2 hl
   have : i = t.Back.length := by simpa using hi
   subst this
   rw [loopO_eq] at hl
   unfold f39_L1 at hl
   simp only [lt_f, cond_false] at hl
   have hl : (some (decide (c ≥ t.Long))) = some true := hl
   simp only [Option.some.injEq, decide_eq_true_eq] at hl
   exact hl
  | cons y r ih =>
   intro i a b c hr hi hc1 hc2 hl
   have hlt : i < t.Back.length := by simp at hi; omega
   have hy : t.Back[i]? = some y := by
    have := congrArg (fun l => l[0]?) hr
    simpa using this
   have hr2 : t.Back.drop (i + 1) = r := by
    have := congrArg List.tail hr
    simpa using this
   rw [loopO_eq] at hl
   unfold f39_L1 at hl
   simp only [lt_t hlt, cond_true, getI_nat, hy, Option.bind_some, in22_eq, le_pred (y := y.Piece) (n := (n.Pieces.length : Int)) (by omega), w64_nat (show i < 9223372036854775807 by omega)] at hl
   obtain ⟨k2, p2, hk2, hp2, e1, e2, hway⟩ := hps i y hy
   rcases piece_cases hg y.Piece with hh | ⟨_, _, _, _, _, _, hh⟩
   ·rw [hh] at hl; cases hl
   rw [hh] at hl
   cases hw : ((y.Way != (1:Int)) && (y.Way != (-1:Int))) with
   | true => rw [hw] at hl; cases hl
   | false =>
    rw [hw] at hl
    rw [joined_eq hs hg hk2 (get_lt hp2)] at hl
    cases hc : decide (c ≥ t.Long) with
    | true => rw [hc] at hl; cases hl
    | false =>
     rw [hc] at hl
     cases hj2 : ((overL n (lookE y.Piece y.Way)).any fun q => decide (q = lookE a (w64 (0 - b)))) with
     | false => rw [hj2] at hl; cases hl
     | true =>
      have hso : stepOk n y := ⟨k2, p2, hk2, hp2, e1, e2, hway⟩
      obtain ⟨p3, q1, q2, q3, q4⟩ := stepOk_len hso
      rw [hj2, q1] at hl
      simp only [Bool.not_true, Bool.or_false, cond_false, Option.bind_some] at hl
      simp only [decide_eq_false_iff_not] at hc
      have hcc : c ≤ 2020000000 := by omega
      refine ⟨by omega, hso, ih (i + 1) y.Piece y.Way (c + lenOf n y) hr2 (by simp at hi; omega) (by omega) (by omega) ?_⟩
      have hl : loopO (f39_L1 n t) (y.Piece, y.Way, w64 (c + p3.Len), ((i + 1 : Nat) : Int)) = some true := hl
      rw [w64_id (by omega), q2] at hl
      exact hl
 exact key t.Back 0 _ _ _ rfl (by simp) (by omega) (by omega) h
def segP (p w along len k : Int) : Part := if w = 1 then ⟨p, along - k, along⟩ else ⟨p, len - along, len - along + k⟩
def minI (a b : Int) : Int := if b < a then b else a
theorem minI_le (a b : Int) : minI a b ≤ a ∧ minI a b ≤ b ∧ (minI a b = a ∨ minI a b = b) := by unfold minI; split <;> omega
def lyGo (n : Net) : Int → List Step → List Part
 | _, [] => []
 | left, s :: r => segP s.Piece s.Way (lenOf n s) (lenOf n s) (minI left (lenOf n s)) :: lyGo n (left - minI left (lenOf n s)) r
def lyL (n : Net) (t : Train) (p : Piece) : List Part := segP t.Front.Piece t.Front.Way (goneF p t.Front) p.Len (minI t.Long (goneF p t.Front)) :: lyGo n (t.Long - minI t.Long (goneF p t.Front)) t.Back
theorem lyGo_len (n : Net) : ∀ (r : List Step) (left : Int), (lyGo n left r).length = r.length
 | [], _ => rfl
 | s :: r, left => by simp only [lyGo, List.length_cons, lyGo_len n r]
theorem impl_part {p w x along len k : Int} (hw : w = 1 ∨ w = -1) (hx : x = if w = 1 then along else len - along) (h1 : 0 ≤ k) (h2 : k ≤ along) (h3 : along ≤ len) (h4 : len ≤ 10000000) : f67 p x (w64 (x - w64 (k * w))) = some (segP p w along len k) := by
 unfold f67 segP
 rcases hw with rfl | rfl
 ·rw [if_pos rfl] at hx ⊢
  subst hx
  rw [w64_id (x := k * 1) (by omega), w64_id (by omega), Int.mul_one]
  congr 2
  ·split <;> omega
  ·split <;> omega
 ·rw [if_neg (show ¬ ((-1 : Int) = 1) by decide)] at hx ⊢
  subst hx
  rw [w64_id (x := k * -1) (by omega), w64_id (by omega)]
  congr 2
  ·split <;> omega
  ·split <;> omega
theorem drop_cons {α : Type} {xs : List α} {i : Nat} {y : α} {r : List α} (h : xs.drop i = y :: r) : i < xs.length ∧ xs[i]? = some y ∧ xs.drop (i + 1) = r := by
 have hlt : i < xs.length := by
  rcases Nat.lt_or_ge i xs.length with hl | hl
  ·exact hl
  ·rw [List.drop_eq_nil_of_le hl] at h; cases h
 rw [List.drop_eq_getElem_cons hlt] at h
 simp only [List.cons.injEq] at h
 exact ⟨hlt, by rw [List.getElem?_eq_getElem hlt, h.1], h.2⟩
theorem impl_lying {n : Net} {t : Train} (f : TrainF n t) : f46 n t = some (lyL n t f.p) := by
 have hgo := goneF_le f.a1 f.a2
 have hb := f.b200
 have hg1 := f.g1
 have hg2 := f.g2
 have hl2 := f.l2
 unfold f46
 rw [gone_eq f.hk f.hp f.l1 f.l2 f.a1 f.a2]
 simp only [Option.bind_some]
 have hm := minI_le t.Long (goneF f.p t.Front)
 rw [show (if goneF f.p t.Front < t.Long then goneF f.p t.Front else t.Long) = minI t.Long (goneF f.p t.Front) from rfl]
 rw [impl_part (along := goneF f.p t.Front) (len := f.p.Len) f.way (by unfold goneF; have hw := f.way; split <;> (rcases hw with hw | hw <;> simp [hw] at * <;> omega)) (by omega) (by omega) hgo.2 f.l2]
 simp only [Option.bind_some]
 rw [w64_id (x := t.Long - minI t.Long (goneF f.p t.Front)) (by omega)]
 have key : ∀ (r : List Step) (i : Nat) (left : Int) (out : List Part), t.Back.drop i = r → i ≤ t.Back.length → (∀ s ∈ r, stepOk n s) → 0 ≤ left → left ≤ 100000 → out.length ≤ i + 1 →
   loopO (f46_L1 n t) (left, out, (i : Int)) = some (out ++ lyGo n left r) := by
  intro r
  induction r with
  | nil =>
   intro i left out hr hi hso h4 h5 ho
   have hi' : i = t.Back.length := by
    have := List.drop_eq_nil_iff.1 hr
    omega
   subst hi'
   rw [loopO_eq]
   unfold f46_L1
   simp only [lt_f, cond_false]
   simp [lyGo]
  | cons y r ih =>
   intro i left out hr hi hso h4 h5 ho
   obtain ⟨hlt, hy, hr2⟩ := drop_cons hr
   obtain ⟨q2, g1, g2, g3, g4⟩ := stepOk_len (hso y (List.mem_cons_self ..))
   have hyw : y.Way = 1 ∨ y.Way = -1 := by obtain ⟨_, _, _, _, _, _, h⟩ := hso y (List.mem_cons_self ..); exact h
   have hm := minI_le left (lenOf n y)
   rw [loopO_eq]
   have hlen : f48 n y = some (lenOf n y) := by unfold f48; rw [g1, Option.bind_some, g2]
   have hk2 : f46_k2 left (i : Int) y (lenOf n y) out (if y.Way = 1 then lenOf n y else 0) = some (.inl (left - minI left (lenOf n y), out ++ [segP y.Piece y.Way (lenOf n y) (lenOf n y) (minI left (lenOf n y))], ((i + 1 : Nat) : Int))) := by
    unfold f46_k2
    rw [show (if lenOf n y < left then lenOf n y else left) = minI left (lenOf n y) from rfl]
    rw [impl_part (along := lenOf n y) (len := lenOf n y) hyw (by split <;> omega) (by omega) (by omega) (Int.le_refl _) g4]
    simp only [Option.bind_some]
    rw [appB_ok (by simp; omega), w64_id (x := left - minI left (lenOf n y)) (by omega), w64_nat (show i < 9223372036854775807 by omega)]
    rfl
   have hF : f46_L1 n t (left, out, (i : Int)) = some (.inl (left - minI left (lenOf n y), out ++ [segP y.Piece y.Way (lenOf n y) (lenOf n y) (minI left (lenOf n y))], ((i + 1 : Nat) : Int))) := by
    unfold f46_L1
    simp only [lt_t hlt, cond_true, getI_nat, hy, Option.bind_some, hlen]
    rcases hyw with hw | hw
    ·rw [hw] at hk2 ⊢
     rw [if_pos rfl] at hk2
     exact hk2
    ·rw [hw] at hk2 ⊢
     rw [if_neg (by decide)] at hk2
     exact hk2
   rw [hF]
   simp only [Option.bind_some]
   rw [ih (i + 1) _ _ hr2 hlt (fun s hs => hso s (List.mem_cons_of_mem _ hs)) (by omega) (by omega) (by simp; omega), List.append_assoc]
   rfl
 have := key t.Back 0 (t.Long - minI t.Long (goneF f.p t.Front)) [segP t.Front.Piece t.Front.Way (goneF f.p t.Front) f.p.Len (minI t.Long (goneF f.p t.Front))] rfl (Nat.zero_le _) (backOk_all f.back) (by omega) (by omega) (Nat.le_refl _)
 exact this
theorem lyL_len (n : Net) (t : Train) (p : Piece) : (lyL n t p).length = t.Back.length + 1 := by unfold lyL; rw [List.length_cons, lyGo_len]
theorem getI_last {α : Type} {xs : List α} (h : 0 < xs.length) (hl : xs.length ≤ 1048576) : getI xs (w64 ((xs.length : Int) - 1)) = xs.getLast? := by
 rw [w64_id (by omega), show (xs.length : Int) - 1 = ((xs.length - 1 : Nat) : Int) by omega, getI_nat, List.getLast?_eq_getElem?]
def wayL (w : Int) (r : List Step) : Int := (r.getLast?.map (·.Way)).getD w
def endS (q : Part) (w : Int) : Spot := bif w == (1:Int) then ⟨q.Piece, q.From, w⟩ else ⟨q.Piece, q.To, w⟩
theorem tail_key {n : Net} {t : Train} (hb : t.Back.length ≤ 200) : ∀ (r : List Step) (i : Nat) (p w along len left : Int) (q : Piece), t.Back.drop i = r → i ≤ t.Back.length → getI n.Pieces p = some q → q.Len = len → (w = 1 ∨ w = -1) → 0 ≤ along → along ≤ len → len ≤ 10000000 → 0 ≤ left → left ≤ 100000 → backOk n left along r →
  ∃ c, loopO (f19_L1 n t) (p, w, left, along, (i : Int)) = some (endS c (wayL w r)) ∧ (segP p w along len (minI left along) :: lyGo n (left - minI left along) r).getLast? = some c := by
 intro r
 induction r with
 | nil =>
  intro i p w along len left q hr hi hq hl hw h1 h2 h3 h4 h5 hbk
  have hi' : i = t.Back.length := by have := List.drop_eq_nil_iff.1 hr; omega
  subst hi'
  have hbk : left ≤ along := hbk
  have hm : minI left along = left := by unfold minI; rw [if_neg (by omega)]
  refine ⟨_, ?_, rfl⟩
  rw [loopO_eq, hm]
  unfold f19_L1 f19_k2 endS wayL segP
  simp only [lt_f, cond_false, hq, Option.bind_some]
  rw [w64_id (x := along - left) (by omega)]
  rcases hw with rfl | rfl
  ·rfl
  ·show some (⟨p, w64 (q.Len - (along - left)), -1⟩ : Spot) = some (⟨(if (-1 : Int) = 1 then _ else _ : Part).Piece, (if (-1 : Int) = 1 then _ else _ : Part).To, -1⟩ : Spot)
   rw [if_neg (show ¬ ((-1 : Int) = 1) by decide), w64_id (by omega), hl]
   congr 2
   show len - (along - left) = len - along + left
   omega
 | cons y r ih =>
  intro i p w along len left q hr hi hq hl hw h1 h2 h3 h4 h5 hbk
  obtain ⟨hlt, hy, hr2⟩ := drop_cons hr
  obtain ⟨hb1, hso, hb2⟩ := hbk
  obtain ⟨q2, g1, g2, g3, g4⟩ := stepOk_len hso
  have hyw : y.Way = 1 ∨ y.Way = -1 := by obtain ⟨_, _, _, _, _, _, h⟩ := hso; exact h
  have hm : minI left along = along := by unfold minI; rw [if_pos hb1]
  have hbk2 : ∀ (r : List Step) (a L d : Int), backOk n L a r → backOk n (L - d) (a - d) r := by
   intro r
   induction r with
   | nil => intro a L d h; have h : L ≤ a := h; show L - d ≤ a - d; omega
   | cons s r ih2 =>
    intro a L d h
    refine ⟨by have := h.1; omega, h.2.1, ?_⟩
    have := ih2 _ _ d h.2.2
    rw [show a - d + lenOf n s = a + lenOf n s - d by omega]
    exact this
  obtain ⟨c, e1, e2⟩ := ih (i + 1) y.Piece y.Way (lenOf n y) (lenOf n y) (left - along) q2 hr2 hlt g1 g2 hyw (by omega) (Int.le_refl _) g4 (by omega) (by omega) (by
   have := hbk2 r _ _ along hb2
   rw [show along + lenOf n y - along = lenOf n y by omega] at this
   exact this)
  refine ⟨c, ?_, ?_⟩
  ·rw [loopO_elim]
   have hF : f19_L1 n t (p, w, left, along, (i : Int)) = some (.inl (y.Piece, y.Way, left - along, lenOf n y, ((i + 1 : Nat) : Int))) := by
    unfold f19_L1
    simp only [lt_t hlt, cond_true, getI_nat, hy, Option.bind_some, g1, g2, w64_nat (show i < 9223372036854775807 by omega)]
    rw [w64_id (x := left - along) (by omega)]
   rw [hF]
   simp only [Option.bind_some, Sum.elim_inl]
   rw [e1]
   congr 2
   unfold wayL
   cases hr' : r with
   | nil => simp
   | cons z zs => rw [List.getLast?_cons_cons]; rfl
  ·rw [hm, ← e2]
   rfl
theorem tail_same {n : Net} {t : Train} (f : TrainF n t) : ∃ r, f19 n t = some r ∧ f26 n t = some r := by
 have hgo := goneF_le f.a1 f.a2
 have hb := f.b200
 obtain ⟨c, e1, e2⟩ := tail_key hb t.Back 0 t.Front.Piece t.Front.Way (goneF f.p t.Front) f.p.Len t.Long f.p rfl (Nat.zero_le _) (by rw [f.hk, getI_nat, f.hp]) rfl f.way hgo.1 hgo.2 f.l2 (by have := f.g1; omega) f.g2 f.back
 refine ⟨endS c (wayL t.Front.Way t.Back), ?_, ?_⟩
 ·unfold f19
  rw [behind_eq f.hk f.hp f.l1 f.l2 f.a1 f.a2, Option.bind_some]
  exact e1
 ·have hlen := lyL_len n t f.p
  unfold f26
  rw [impl_lying f, Option.bind_some, getI_last (by omega) (by omega)]
  rw [show (lyL n t f.p).getLast? = some c from e2, Option.bind_some]
  cases hbk : t.Back with
  | nil =>
   simp only [List.length_nil]
   show f26_k1 c t.Front.Way = _
   unfold f26_k1 endS wayL
   simp only [List.getLast?_nil, Option.map_none, Option.getD_none]
   cases t.Front.Way == (1:Int) <;> rfl
  | cons z zs =>
   have hpos : 0 < t.Back.length := by rw [hbk]; simp
   rw [← hbk, decide_eq_true (show (t.Back.length : Int) > (0:Int) by omega), cond_true, getI_last hpos (by omega)]
   obtain ⟨s, hs⟩ : ∃ s, t.Back.getLast? = some s := ⟨_, List.getLast?_eq_some_getLast (by rw [hbk]; simp)⟩
   rw [hs, Option.bind_some]
   unfold f26_k1 endS wayL
   rw [hs]
   simp only [Option.map_some, Option.getD_some]
   cases s.Way == (1:Int) <;> rfl
theorem catB_ok {a b : ByteArray} (h : a.size + b.size ≤ 1099511627776) : catB a b = some (a ++ b) := if_pos h
theorem text_some : ∀ (n : Nat) (k : Int) (s : ByteArray), 0 ≤ k → k ≤ 4611686018427387904 → k < ((10 ^ n : Nat) : Int) → s.size + n ≤ 1000 → ∃ r, loopO f52_L1 (k, s) = some r
 | 0, k, s, h0, hb, h1, h2 => by
  have : k = 0 := by simp at h1; omega
  subst this
  rw [loopO_eq]
  unfold f52_L1
  simp only [show decide ((0:Int) > 0) = false from rfl, cond_false]
  rw [catB_ok (by show 1 + s.size ≤ _; omega)]
  exact ⟨_, rfl⟩
 | n + 1, k, s, h0, hb, h1, h2 => by
  rw [loopO_eq]
  unfold f52_L1
  by_cases hk : k > 0
  ·simp only [show decide (k > 0) = true by rw [decide_eq_true_eq]; exact hk, cond_true]
   rw [Nat.pow_succ] at h1
   have e1 : (bytesU [⟨IntKind.wrap .u8 (w64 (48 + k.tmod 10))⟩]).size = 1 := rfl
   rw [catB_ok (by rw [e1]; omega)]
   simp only [Option.bind_some]
   have e2 : Int.tdiv k 10 = k / 10 := Int.tdiv_eq_ediv_of_nonneg h0
   rw [e2, w64_id ⟨by omega, by omega⟩]
   exact text_some n (k / 10) _ (by omega) (by omega) (by omega) (by rw [ByteArray.size_append, e1]; omega)
  ·simp only [show decide (k > 0) = false by rw [decide_eq_false_iff_not]; exact hk, cond_false]
   rw [catB_ok (by show 1 + s.size ≤ _; omega)]
   exact ⟨_, rfl⟩
def mtext (k : Int) : ByteArray := (f52 k).getD ByteArray.empty
theorem mt_eq {k : Int} (h0 : 0 ≤ k) (hb : k ≤ 4611686018427387904) : f52 k = some (mtext k) := by
 have : ∃ r, f52 k = some r := by
  unfold f52
  cases decide (k ≤ 0) with
  | true => exact ⟨_, rfl⟩
  | false =>
   simp only [cond_false]
   exact text_some 19 k _ h0 hb (by omega) (by decide)
 obtain ⟨r, hr⟩ := this
 unfold mtext
 rw [hr]; rfl
def partIn (n : Net) (c : Part) : Prop := ∃ (k : Nat) (q : Piece), c.Piece = (k : Int) ∧ n.Pieces[k]? = some q ∧ 1 ≤ q.Len ∧ q.Len ≤ 10000000 ∧ 0 ≤ c.From ∧ c.From ≤ q.Len ∧ 0 ≤ c.To ∧ c.To ≤ q.Len
theorem seg_in {n : Net} {p w along len k : Int} {j : Nat} {q : Piece} (hp : p = (j : Int)) (hq : n.Pieces[j]? = some q) (hl : q.Len = len) (h1 : 1 ≤ len) (h2 : len ≤ 10000000) (h3 : 0 ≤ k) (h4 : k ≤ along) (h5 : along ≤ len) : partIn n (segP p w along len k) := by
 unfold segP
 split
 ·exact ⟨j, q, hp, hq, by omega, by omega, by show 0 ≤ along - k; omega, by show along - k ≤ _; omega, by show 0 ≤ along; omega, by show along ≤ _; omega⟩
 ·exact ⟨j, q, hp, hq, by omega, by omega, by show 0 ≤ len - along; omega, by show len - along ≤ _; omega, by show 0 ≤ len - along + k; omega, by show len - along + k ≤ _; omega⟩
theorem lenOf_at {n : Net} {s : Step} {k : Nat} {q : Piece} (hk : s.Piece = (k : Int)) (hq : n.Pieces[k]? = some q) : lenOf n s = q.Len := by
 unfold lenOf
 rw [hk]
 show ((n.Pieces[k]?).map (·.Len)).getD 0 = _
 rw [hq]; rfl
theorem lyGo_in {n : Net} : ∀ {r : List Step} {left : Int}, 0 ≤ left → (∀ s ∈ r, stepOk n s) → ∀ c ∈ lyGo n left r, partIn n c
 | [], _, _, _, c, hc => by cases hc
 | s :: r, left, h0, h, c, hc => by
  obtain ⟨k, q, hk, hq, l1, l2, _⟩ := h s (List.mem_cons_self ..)
  have hl := lenOf_at hk hq
  have hm := minI_le left (lenOf n s)
  unfold lyGo at hc
  rcases List.mem_cons.1 hc with rfl | hc
  ·exact seg_in hk hq hl.symm (by omega) (by omega) (by omega) (by omega) (Int.le_refl _)
  ·exact lyGo_in (by omega) (fun x hx => h x (List.mem_cons_of_mem _ hx)) c hc
theorem lyL_in {n : Net} {t : Train} (f : TrainF n t) : ∀ c ∈ lyL n t f.p, partIn n c := fun c hc => by
 have hgo := goneF_le f.a1 f.a2
 have hm := minI_le t.Long (goneF f.p t.Front)
 have hg := f.g1
 have l1 := f.l1
 have l2 := f.l2
 unfold lyL at hc
 rcases List.mem_cons.1 hc with rfl | hc
 ·exact seg_in f.hk f.hp rfl l1 l2 (by omega) (by omega) hgo.2
 ·exact lyGo_in (by omega) (backOk_all f.back) c hc
theorem wayL_or {n : Net} {w : Int} {r : List Step} (hw : w = 1 ∨ w = -1) (h : ∀ s ∈ r, stepOk n s) : wayL w r = 1 ∨ wayL w r = -1 := by
 unfold wayL
 cases hg : r.getLast? with
 | none => exact hw
 | some s =>
  obtain ⟨_, _, _, _, _, _, hs⟩ := h s (List.mem_of_getLast? hg)
  exact hs
theorem tail_is {n : Net} {t : Train} (f : TrainF n t) : ∃ c ∈ lyL n t f.p, f19 n t = some (endS c (wayL t.Front.Way t.Back)) ∧ f26 n t = some (endS c (wayL t.Front.Way t.Back)) := by
 have hgo := goneF_le f.a1 f.a2
 have hb := f.b200
 obtain ⟨c, e1, e2⟩ := tail_key hb t.Back 0 t.Front.Piece t.Front.Way (goneF f.p t.Front) f.p.Len t.Long f.p rfl (Nat.zero_le _) (by rw [f.hk, getI_nat, f.hp]) rfl f.way hgo.1 hgo.2 f.l2 (by have := f.g1; omega) f.g2 f.back
 have hr : f19 n t = some (endS c (wayL t.Front.Way t.Back)) := by
  unfold f19
  rw [behind_eq f.hk f.hp f.l1 f.l2 f.a1 f.a2, Option.bind_some]
  exact e1
 obtain ⟨r, h1, h2⟩ := tail_same f
 rw [hr] at h1
 cases h1
 exact ⟨c, List.mem_of_getLast? e2, hr, h2⟩
def takeGo (n : Net) (L : Int) : Int → List Step → List Step
 | _, [] => []
 | h, s :: r => bif decide (h < L) then s :: takeGo n L (h + lenOf n s) r else []
theorem takeGo_take (n : Net) (L : Int) : ∀ (r : List Step) (h : Int), ∃ k, k ≤ r.length ∧ takeGo n L h r = r.take k
 | [], h => ⟨0, Nat.le_refl _, rfl⟩
 | s :: r, h => by
  unfold takeGo
  cases decide (h < L) with
  | false => exact ⟨0, Nat.zero_le _, rfl⟩
  | true =>
   obtain ⟨k, h1, h2⟩ := takeGo_take n L r (h + lenOf n s)
   exact ⟨k + 1, by simp only [List.length_cons]; omega, by rw [cond_true, h2]; rfl⟩
def negS (s : Step) : Step := { Piece := s.Piece, Way := w64 (0 - s.Way) }
theorem neg_ok {n : Net} {s : Step} (h : stepOk n s) : stepOk n (negS s) := by
 obtain ⟨k, p, h1, h2, h3, h4, h5⟩ := h
 refine ⟨k, p, h1, h2, h3, h4, ?_⟩
 show w64 (0 - s.Way) = 1 ∨ w64 (0 - s.Way) = -1
 rcases h5 with e | e <;> rw [e]
 ·exact .inr (by decide)
 ·exact .inl (by decide)
theorem len_impl {n : Net} {s : Step} (h : stepOk n s) : f48 n s = some (lenOf n s) := by
 obtain ⟨p, g1, g2, _⟩ := stepOk_len h
 unfold f48
 rw [g1, Option.bind_some, g2]
theorem trim_key {n : Net} {u : Train} (hl : u.Back.length ≤ 201) (hs : ∀ s ∈ u.Back, stepOk n s) : ∀ (r : List Step) (i : Nat) (h : Int), u.Back.drop i = r → i ≤ u.Back.length → 0 ≤ h → h ≤ 10000000 * ((i : Int) + 1) →
  loopO (f27_L2 n u) (u.Back, h, (i : Int)) = some { Front := u.Front, Long := u.Long, Back := u.Back.take i ++ takeGo n u.Long h r } := by
 intro r
 induction r with
 | nil =>
  intro i h hr hi h0 h1
  have hi' : i = u.Back.length := by have := List.drop_eq_nil_iff.1 hr; omega
  subst hi'
  rw [loopO_eq]
  unfold f27_L2 f27_k1 takeGo
  simp only [lt_f, cond_false, List.take_length, List.append_nil, Option.map_some, Option.bind_some]
 | cons s r ih =>
  intro i h hr hi h0 h1
  obtain ⟨hlt, hy, hr2⟩ := drop_cons hr
  have hso := hs s (List.mem_of_getElem? hy)
  obtain ⟨q, _, _, l1, l2⟩ := stepOk_len hso
  rw [loopO_elim]
  unfold takeGo
  have ht : u.Back.take (i + 1) = u.Back.take i ++ [s] := by
   rw [List.take_succ_eq_append_getElem hlt]
   rw [List.getElem?_eq_getElem hlt] at hy
   rw [Option.some.inj hy]
  cases hd : decide (h < u.Long) with
  | false =>
   have hge : decide (h ≥ u.Long) = true := by simp only [decide_eq_false_iff_not, decide_eq_true_eq] at hd ⊢; omega
   have hsb : subB u.Back (0 : Int) (i : Int) = some (u.Back.take i) := by
    unfold subB
    rw [if_pos ⟨by omega, by omega, by omega⟩]
    simp
   have hF : f27_L2 n u (u.Back, h, (i : Int)) = some (.inr { Front := u.Front, Long := u.Long, Back := u.Back.take i }) := by
    unfold f27_L2 f27_k1
    simp only [lt_t hlt, cond_true, getI_nat, hy, Option.bind_some, hge, hsb, Option.map_some]
   rw [hF]
   simp only [Option.bind_some, Sum.elim_inr, cond_false, List.append_nil]
  | true =>
   have hge : decide (h ≥ u.Long) = false := by simp only [decide_eq_false_iff_not, decide_eq_true_eq] at hd ⊢; omega
   have hF : f27_L2 n u (u.Back, h, (i : Int)) = some (.inl (u.Back, h + lenOf n s, ((i + 1 : Nat) : Int))) := by
    unfold f27_L2
    simp only [lt_t hlt, cond_true, getI_nat, hy, Option.bind_some, hge, cond_false, len_impl hso, w64_nat (show i < 9223372036854775807 by omega)]
    rw [w64_id (x := h + lenOf n s) (by omega)]
   rw [hF]
   simp only [Option.bind_some, Sum.elim_inl]
   rw [ih (i + 1) (h + lenOf n s) hr2 hlt (by omega) (by omega), cond_true, ht, List.append_assoc]; rfl
theorem trim_eq {n : Net} {u : Train} {k : Nat} {q : Piece} (hk : u.Front.Piece = (k : Int)) (hq : n.Pieces[k]? = some q) (l1 : 1 ≤ q.Len) (l2 : q.Len ≤ 10000000) (a1 : 0 ≤ u.Front.At) (a2 : u.Front.At ≤ q.Len) (hl : u.Back.length ≤ 201) (hs : ∀ s ∈ u.Back, stepOk n s) :
  f27 n u = some { Front := u.Front, Long := u.Long, Back := takeGo n u.Long (goneF q u.Front) u.Back } := by
 have hgo := goneF_le a1 a2
 unfold f27
 rw [gone_eq hk hq l1 l2 a1 a2, Option.bind_some]
 have h0 : loopO (f27_L2 n u) (u.Back, goneF q u.Front, ((0 : Nat) : Int)) = _ := trim_key hl hs u.Back 0 (goneF q u.Front) rfl (Nat.zero_le _) hgo.1 (by have := hgo.2; omega)
 exact h0
theorem rev_take {α : Type} {A : List α} {j : Nat} (hj : j < A.length) : (A.take (j + 1)).reverse = A[j] :: (A.take j).reverse := by
 rw [List.take_succ_eq_append_getElem hj, List.reverse_append]; rfl
abbrev spotN (v : Spot) : Spot := { Piece := v.Piece, At := v.At, Way := w64 (0 - v.Way) }
theorem spec_take {n : Net} {t : Train} {v : Spot} {A : List Step} (hA : A.length ≤ 201) (hs : ∀ s ∈ A, stepOk n s) : ∀ (j : Nat) (out : List Step) (h : Int), j ≤ A.length → out.length + j ≤ 201 → 0 ≤ h → h ≤ 10000000 * (203 - (j : Int)) →
  loopO (f6_L2 n t v) (out, A, h, (j : Int) - 1) = some { Front := spotN v, Long := t.Long, Back := out ++ takeGo n t.Long h (A.take j).reverse } := by
 intro j
 induction j with
 | zero =>
  intro out h _ _ _ _
  rw [loopO_eq]
  unfold f6_L2
  rw [show decide (((0 : Nat) : Int) - 1 ≥ (0:Int)) = false by decide]
  simp only [Bool.false_and, cond_false, Option.map_some, Option.bind_some, List.take_zero, List.reverse_nil]
  unfold takeGo
  rw [List.append_nil]
 | succ j ih =>
  intro out h hj hout h0 h1
  have hjl : j < A.length := hj
  have hso := hs _ (List.getElem_mem hjl)
  obtain ⟨q, g1, g2, l1, l2⟩ := stepOk_len hso
  rw [loopO_elim, rev_take hjl]
  unfold takeGo
  have e1 : ((j + 1 : Nat) : Int) - 1 = (j : Int) := by omega
  have e2 : decide ((j : Int) ≥ (0:Int)) = true := by rw [decide_eq_true_eq]; omega
  cases hd : decide (h < t.Long) with
  | false =>
   have hF : f6_L2 n t v (out, A, h, ((j + 1 : Nat) : Int) - 1) = some (.inr { Front := spotN v, Long := t.Long, Back := out }) := by
    unfold f6_L2
    rw [e1]
    simp only [e2, hd, Bool.and_false, cond_false, Option.map_some]
   rw [hF]
   simp only [Option.bind_some, Sum.elim_inr, cond_false, List.append_nil]
  | true =>
   have hF : f6_L2 n t v (out, A, h, ((j + 1 : Nat) : Int) - 1) = some (.inl (out ++ [A[j]], A, h + lenOf n A[j], (j : Int) - 1)) := by
    unfold f6_L2
    rw [e1]
    simp only [e2, hd, Bool.and_true, cond_true, getI_nat, List.getElem?_eq_getElem hjl, Option.bind_some]
    rw [appB_ok (by simp only [List.length_singleton]; omega), Option.bind_some, g1, Option.bind_some, g2, w64_id (x := h + lenOf n A[j]) (by omega), w64_id (x := (j : Int) - 1) (by omega)]
   rw [hF]
   simp only [Option.bind_some, Sum.elim_inl]
   rw [ih (out ++ [A[j]]) (h + lenOf n A[j]) (by omega) (by rw [List.length_append, List.length_singleton]; omega) (by omega) (by omega), List.append_assoc]
   rfl
theorem impl_neg {n : Net} {t : Train} {v : Spot} {A : List Step} {r : Train} (hA : A.length ≤ 201) : ∀ (j : Nat) (out : List Step), j ≤ A.length → out.length + j ≤ 201 →
  ((f27 n ({ Front := spotN v, Long := t.Long, Back := out ++ ((A.take j).reverse).map negS } : Train)).bind fun v21 => some ({ Front := v21.Front, Long := v21.Long, Back := v21.Back } : Train)) = some r → loopO (f9_L1 n t v) (out, A, (j : Int) - 1) = some r := by
 intro j
 induction j with
 | zero =>
  intro out _ _ hr
  rw [loopO_eq]
  unfold f9_L1
  rw [show decide (((0 : Nat) : Int) - 1 ≥ (0:Int)) = false by decide]
  simp only [cond_false]
  rw [List.take_zero, List.reverse_nil, List.map_nil, List.append_nil] at hr
  rw [hr]; rfl
 | succ j ih =>
  intro out hj hout hr
  have hjl : j < A.length := hj
  rw [rev_take hjl, List.map_cons] at hr
  rw [loopO_elim]
  have hF : f9_L1 n t v (out, A, ((j + 1 : Nat) : Int) - 1) = some (.inl (out ++ [negS A[j]], A, (j : Int) - 1)) := by
   unfold f9_L1
   rw [show ((j + 1 : Nat) : Int) - 1 = (j : Int) by omega]
   simp only [show decide ((j : Int) ≥ (0:Int)) = true by rw [decide_eq_true_eq]; omega, cond_true, getI_nat, List.getElem?_eq_getElem hjl, Option.bind_some]
   rw [appB_ok (by simp only [List.length_singleton]; omega), Option.bind_some, w64_id (x := (j : Int) - 1) (by omega)]
   rfl
  rw [hF]
  simp only [Option.bind_some, Sum.elim_inl]
  refine ih (out ++ [negS A[j]]) (by omega) (by rw [List.length_append, List.length_singleton]; omega) ?_
  rw [List.append_assoc]; exact hr
theorem main3 {n : Net} {t : Train} (hx : fitNet n) (ht : fitTrain t) (hs : smNet n) (hts : smTrain t) : ∃ r, f6 n t = some r ∧ f9 n t = some r ∧ smTrain r := by
 have nil : smTrain ⟨⟨0, 0, 0⟩, 0, []⟩ := ⟨by simp, fun _ _ => trivial⟩
 unfold f6 f9 f18 f25
 rw [l22ok_eq hx hs, good_eq hx hs]
 cases hg : goodNet n with
 | false => exact ⟨_, rfl, rfl, nil⟩
 | true =>
  obtain ⟨r1, h1, h2⟩ := train_same (t := t) hs hg
  simp only [h1, h2, Option.bind_some, cond_true]
  cases r1 with
  | false => exact ⟨_, rfl, rfl, nil⟩
  | true =>
   obtain ⟨f⟩ := train_facts hs hg h1
   obtain ⟨c, hc, e1, e2⟩ := tail_is f
   obtain ⟨k, q, c1, c2, c3, c4, c5, c6, c7, c8⟩ := lyL_in f c hc
   have hwl := wayL_or (r := t.Back) f.way (backOk_all f.back)
   have hb := f.b200
   generalize hv : endS c (wayL t.Front.Way t.Back) = v at e1 e2
   have hvp : v.Piece = (k : Int) ∧ 0 ≤ v.At ∧ v.At ≤ q.Len := by
    subst hv
    unfold endS
    cases (wayL t.Front.Way t.Back == (1:Int)) with
    | true => exact ⟨c1, c5, c6⟩
    | false => exact ⟨c1, c7, c8⟩
   simp only [Bool.not_true, cond_false, e1, e2, Option.bind_some]
   let A : List Step := ({ Piece := t.Front.Piece, Way := t.Front.Way } : Step) :: t.Back
   have hA : A.length = t.Back.length + 1 := rfl
   have hok : ∀ s ∈ A, stepOk n s := fun s hs => by
    rcases List.mem_cons.1 hs with rfl | hs
    ·exact ⟨f.k, f.p, f.hk, f.hp, f.l1, f.l2, f.way⟩
    ·exact backOk_all f.back s hs
   have hmok : ∀ s ∈ A.map negS, stepOk n s := fun s hs => by
    obtain ⟨x, hx, rfl⟩ := List.mem_map.1 hs
    exact neg_ok (hok x hx)
   have hgo := goneF_le (s := spotN v) (p := q) hvp.2.1 hvp.2.2
   let R : List Step := ((A.take t.Back.length).reverse).map negS
   have hR : R.length = t.Back.length := by show (((A.take t.Back.length).reverse).map negS).length = _; rw [List.length_map, List.length_reverse, List.length_take]; omega
   have hRok : ∀ s ∈ R, stepOk n s := fun s hs => by
    obtain ⟨x, hx, rfl⟩ := List.mem_map.1 hs
    exact neg_ok (hok x (List.mem_of_mem_take (List.mem_reverse.1 hx)))
   refine ⟨{ Front := spotN v, Long := t.Long, Back := takeGo n t.Long (goneF q (spotN v)) R }, ?_, ?_, ?_⟩
   ·refine loopO_run (F := f6_L1 n t v) t.Back.length (fun i => (([({ Piece := t.Front.Piece, Way := w64 (0 - t.Front.Way) } : Step)] : List Step) ++ (t.Back.take i).map negS, (i : Int))) (fun i hi => ?_) ?_
    ·unfold f6_L1
     simp only [lt_t hi, cond_true, getI_nat, List.getElem?_eq_getElem hi, Option.bind_some]
     rw [appB_ok (by simp only [List.length_append, List.length_singleton, List.length_map, List.length_take]; omega), Option.bind_some, w64_nat (by omega), List.take_succ_eq_append_getElem hi, List.map_append, List.append_assoc]
     rfl
    ·unfold f6_L1
     simp only [lt_f, cond_false, List.take_length]
     rw [behind_eq (s := spotN v) hvp.1 c2 c3 c4 hvp.2.1 hvp.2.2, Option.bind_some]
     have hAm : ([({ Piece := t.Front.Piece, Way := w64 (0 - t.Front.Way) } : Step)] : List Step) ++ t.Back.map negS = A.map negS := rfl
     rw [hAm]
     have hml : (A.map negS).length = t.Back.length + 1 := by rw [List.length_map]; rfl
     have h3 := spec_take (n := n) (t := t) (v := v) (A := A.map negS) (by omega) hmok t.Back.length [] (goneF q (spotN v)) (by omega) (by simp only [List.length_nil]; omega) hgo.1 (by have := hgo.2; omega)
     rw [show w64 (((A.map negS).length : Int) - (2:Int)) = (t.Back.length : Int) - 1 by rw [hml, w64_id (by omega)]; omega, h3]
     simp only [Option.map_some, List.nil_append]
     rw [← List.map_take, ← List.map_reverse]
   ·rw [appB_ok (by simp only [List.length_singleton]; omega), Option.bind_some]
    have hz : ([({ Piece := t.Front.Piece, Way := t.Front.Way } : Step)] : List Step) ++ t.Back = A := rfl
    rw [hz, show w64 ((A.length : Int) - (2:Int)) = (t.Back.length : Int) - 1 by rw [hA, w64_id (by omega)]; omega]
    refine impl_neg (A := A) (by omega) t.Back.length [] (by omega) (by simp only [List.length_nil]; omega) ?_
    rw [trim_eq (u := { Front := spotN v, Long := t.Long, Back := [] ++ ((A.take t.Back.length).reverse).map negS }) (k := k) (q := q) hvp.1 c2 c3 c4 hvp.2.1 hvp.2.2 (by show R.length ≤ 201; omega) hRok]
    rfl
   ·obtain ⟨m, h3, h4⟩ := takeGo_take n t.Long R (goneF q (spotN v))
    exact ⟨by show (takeGo n t.Long (goneF q (spotN v)) R).length ≤ _; rw [h4, List.length_take]; omega, fun _ _ => trivial⟩
def mk_Piece (x : Piece) (k : Int) : Piece := { Name := mtext k, Len := k + 1, Speed := k + 1 + 1, Brake := k + 1 + 1 + 1 }
def ck_Piece (x : Piece) : Nat := 1 + (1 + (1 + (1)))
def mk_End (x : End) (k : Int) : End := { Piece := k, Side := k + 1 }
def ck_End (x : End) : Nat := 1 + (1)
def mk_Joint (x : Joint) (k : Int) : Joint := { Kind := k, Name := mtext (k + 1), Ends := markAll mk_End ck_End x.Ends (k + 1 + 1) }
def ck_Joint (x : Joint) : Nat := 1 + (1 + (csum ck_End x.Ends))
def ms_Net (x : Net) (k : Int) : Net := { Pieces := markAll mk_Piece ck_Piece x.Pieces k, Joints := markAll mk_Joint ck_Joint x.Joints (k + ((csum ck_Piece x.Pieces : Nat) : Int)) }
def cs_Net (x : Net) : Nat := csum ck_Piece x.Pieces + (csum ck_Joint x.Joints)
theorem f32_mark {x : List Piece} {k : Int} (hx : (smL (fun _ => True)) x) (h0 : 0 ≤ k) (hb : k + ((csum ck_Piece x : Nat) : Int) ≤ 4611686018427387904) : f32 x k = some (markAll mk_Piece ck_Piece x k, k + ((csum ck_Piece x : Nat) : Int)) := by
 have hl := hx.1
 unfold f32
 refine mark_loop (F := f32_L1) (fun xs k i => (xs, k, i)) mk_Piece ck_Piece (fun _ => True) x.length (fun pre y post k hp h0 hb hn => ?_) (fun ys k hn => ?_) x [] k hx.2 h0 hb rfl
 ·have hlen := len_mid hn
  have hb' : k + ((1 + (1 + (1 + (1))) : Nat) : Int) ≤ 4611686018427387904 := hb
  unfold f32_L1
  simp (disch := omega) only [lt_mid, cond_true, getI_mid, set_mid, Option.bind_some, w64_up, mt_eq]
  rw [show k + ((ck_Piece y : Nat) : Int) = k + 1 + 1 + 1 + 1 from by show k + ((1 + (1 + (1 + (1))) : Nat) : Int) = _; omega]
  rfl
 ·unfold f32_L1
  simp only [← hn, lt_f, cond_false, Option.map_some]
theorem f53_mark {x : List End} {k : Int} (hx : (smL (fun _ => True)) x) (h0 : 0 ≤ k) (hb : k + ((csum ck_End x : Nat) : Int) ≤ 4611686018427387904) : f53 x k = some (markAll mk_End ck_End x k, k + ((csum ck_End x : Nat) : Int)) := by
 have hl := hx.1
 unfold f53
 refine mark_loop (F := f53_L1) (fun xs k i => (xs, k, i)) mk_End ck_End (fun _ => True) x.length (fun pre y post k hp h0 hb hn => ?_) (fun ys k hn => ?_) x [] k hx.2 h0 hb rfl
 ·have hlen := len_mid hn
  have hb' : k + ((1 + (1) : Nat) : Int) ≤ 4611686018427387904 := hb
  unfold f53_L1
  simp (disch := omega) only [lt_mid, cond_true, getI_mid, set_mid, Option.bind_some, w64_up]
  rw [show k + ((ck_End y : Nat) : Int) = k + 1 + 1 from by show k + ((1 + (1) : Nat) : Int) = _; omega]
  rfl
 ·unfold f53_L1
  simp only [← hn, lt_f, cond_false, Option.map_some]
theorem f33_mark {x : List Joint} {k : Int} (hx : (smL smJoint) x) (h0 : 0 ≤ k) (hb : k + ((csum ck_Joint x : Nat) : Int) ≤ 4611686018427387904) : f33 x k = some (markAll mk_Joint ck_Joint x k, k + ((csum ck_Joint x : Nat) : Int)) := by
 have hl := hx.1
 unfold f33
 refine mark_loop (F := f33_L1) (fun xs k i => (xs, k, i)) mk_Joint ck_Joint smJoint x.length (fun pre y post k hp h0 hb hn => ?_) (fun ys k hn => ?_) x [] k hx.2 h0 hb rfl
 ·have hlen := len_mid hn
  have hb' : k + ((1 + (1 + (csum ck_End y.Ends)) : Nat) : Int) ≤ 4611686018427387904 := hb
  unfold f33_L1
  simp (disch := omega) only [lt_mid, cond_true, getI_mid, set_mid, Option.bind_some, w64_up, mt_eq, f53_mark (x := y.Ends) hp]
  rw [show k + ((ck_Joint y : Nat) : Int) = k + 1 + 1 + ((csum ck_End y.Ends : Nat) : Int) from by show k + ((1 + (1 + (csum ck_End y.Ends)) : Nat) : Int) = _; omega]
  rfl
 ·unfold f33_L1
  simp only [← hn, lt_f, cond_false, Option.map_some]
theorem f12_mark {x : Net} {k : Int} (hx : smNet x) (h0 : 0 ≤ k) (hb : k + ((cs_Net x : Nat) : Int) ≤ 4611686018427387904) : f12 x k = some (ms_Net x k, k + ((cs_Net x : Nat) : Int)) := by
 unfold cs_Net at hb
 unfold f12
 rw [f32_mark (x := x.Pieces) (k := k) hx.1 (by omega) (by omega), Option.bind_some]
 dsimp only
 rw [f33_mark (x := x.Joints) (k := k + ((csum ck_Piece x.Pieces : Nat) : Int)) hx.2 (by omega) (by omega), Option.bind_some]
 dsimp only
 rw [show k + ((cs_Net x : Nat) : Int) = k + ((csum ck_Piece x.Pieces : Nat) : Int) + ((csum ck_Joint x.Joints : Nat) : Int) from by unfold cs_Net; omega]
 rfl
theorem ck_Piece_le (x : Piece) (hx : (fun _ => True) x) : ck_Piece x ≤ 4 := by
 unfold ck_Piece
 omega
theorem ck_End_le (x : End) (hx : (fun _ => True) x) : ck_End x ≤ 2 := by
 unfold ck_End
 omega
theorem ck_Joint_le (x : Joint) (hx : smJoint x) : ck_Joint x ≤ 2097154 := by
 unfold ck_Joint
 have h0 : (csum ck_End) x.Ends ≤ 2097152 := by
  have h := (fun _ hx => csum_bd (p := (fun _ => True)) ck_End_le hx.1 hx.2) x.Ends hx
  exact h
 omega
theorem cs_Net_le (x : Net) (hx : smNet x) : cs_Net x ≤ 2199029547008 := by
 unfold cs_Net
 have h0 : (csum ck_Piece) x.Pieces ≤ 4194304 := by
  have h := (fun _ hx => csum_bd (p := (fun _ => True)) ck_Piece_le hx.1 hx.2) x.Pieces hx.1
  exact h
 have h1 : (csum ck_Joint) x.Joints ≤ 2199025352704 := by
  have h := (fun _ hx => csum_bd (p := smJoint) ck_Joint_le hx.1 hx.2) x.Joints hx.2
  exact h
 omega
def mk_Step (x : Step) (k : Int) : Step := { Piece := k, Way := k + 1 }
def ck_Step (x : Step) : Nat := 1 + (1)
def ms_Train (x : Train) (k : Int) : Train := { Front := x.Front, Long := x.Long, Back := markAll mk_Step ck_Step x.Back k }
def cs_Train (x : Train) : Nat := csum ck_Step x.Back
theorem f34_mark {x : List Step} {k : Int} (hx : (smL (fun _ => True)) x) (h0 : 0 ≤ k) (hb : k + ((csum ck_Step x : Nat) : Int) ≤ 4611686018427387904) : f34 x k = some (markAll mk_Step ck_Step x k, k + ((csum ck_Step x : Nat) : Int)) := by
 have hl := hx.1
 unfold f34
 refine mark_loop (F := f34_L1) (fun xs k i => (xs, k, i)) mk_Step ck_Step (fun _ => True) x.length (fun pre y post k hp h0 hb hn => ?_) (fun ys k hn => ?_) x [] k hx.2 h0 hb rfl
 ·have hlen := len_mid hn
  have hb' : k + ((1 + (1) : Nat) : Int) ≤ 4611686018427387904 := hb
  unfold f34_L1
  simp (disch := omega) only [lt_mid, cond_true, getI_mid, set_mid, Option.bind_some, w64_up]
  rw [show k + ((ck_Step y : Nat) : Int) = k + 1 + 1 from by show k + ((1 + (1) : Nat) : Int) = _; omega]
  rfl
 ·unfold f34_L1
  simp only [← hn, lt_f, cond_false, Option.map_some]
theorem f13_mark {x : Train} {k : Int} (hx : smTrain x) (h0 : 0 ≤ k) (hb : k + ((cs_Train x : Nat) : Int) ≤ 4611686018427387904) : f13 x k = some (ms_Train x k, k + ((cs_Train x : Nat) : Int)) := by
 unfold cs_Train at hb
 unfold f13
 rw [f34_mark (x := x.Back) (k := k) hx (by omega) (by omega), Option.bind_some]
 dsimp only
 rw [show k + ((cs_Train x : Nat) : Int) = k + ((csum ck_Step x.Back : Nat) : Int) from by unfold cs_Train; omega]
 rfl
theorem ck_Step_le (x : Step) (hx : (fun _ => True) x) : ck_Step x ≤ 2 := by
 unfold ck_Step
 omega
theorem cs_Train_le (x : Train) (hx : smTrain x) : cs_Train x ≤ 2097152 := by
 unfold cs_Train
 have h0 : (csum ck_Step) x.Back ≤ 2097152 := by
  have h := (fun _ hx => csum_bd (p := (fun _ => True)) ck_Step_le hx.1 hx.2) x.Back hx
  exact h
 omega
theorem f35_held {x : List Step} {k : Int} (hx : (smL (fun _ => True)) x) (h0 : 0 ≤ k) (hb : k + ((csum ck_Step x : Nat) : Int) ≤ 4611686018427387904) : f35 (markAll mk_Step ck_Step x k) k = some (k + ((csum ck_Step x : Nat) : Int)) := by
 have hl := hx.1
 unfold f35
 refine held_loop (F := f35_L1 (markAll mk_Step ck_Step x k)) (fun k i => (k, i)) mk_Step ck_Step (fun _ => True) (markAll mk_Step ck_Step x k) (fun i y k hp h0 hb hy => ?_) (fun k2 => ?_) x [] k rfl hx.2 h0 hb
 ·have hlen := get_lt hy
  have hlt := lt_t hlen
  rw [markAll_len] at hlen
  have hb' : k + ((1 + (1) : Nat) : Int) ≤ 4611686018427387904 := hb
  unfold f35_L1
  simp (disch := omega) only [hlt, cond_true, getI_nat, hy, Option.bind_some, mk_Step, bne_self_eq_false, beq_self_eq_true, Bool.not_true, cond_false, w64_up, ltz]
  rw [show k + ((ck_Step y : Nat) : Int) = k + 1 + 1 from by show k + ((1 + (1) : Nat) : Int) = _; omega]
  rfl
 ·unfold f35_L1
  simp only [lt_f, cond_false, Option.map_some]
theorem f14_held {x : Train} {k : Int} (hx : smTrain x) (h0 : 0 ≤ k) (hb : k + ((cs_Train x : Nat) : Int) ≤ 4611686018427387904) : f14 (ms_Train x k) k = some (k + ((cs_Train x : Nat) : Int)) := by
 unfold cs_Train at hb
 unfold f14 ms_Train
 dsimp only
 rw [f35_held (x := x.Back) (k := k) hx (by omega) (by omega), Option.bind_some, ltz (by omega), cond_false]
 rw [show k + ((cs_Train x : Nat) : Int) = k + ((csum ck_Step x.Back : Nat) : Int) from by unfold cs_Train; omega]
theorem law3 (aAN0 : Net) (aAT1 : Train) (haAN0 : fitNet aAN0) (haAT1 : fitTrain aAT1) : f3 aAN0 aAT1 = some true := by
 unfold f3
 obtain ⟨v0, e0, a0, b0⟩ := f4_sz (x := aAN0) (left := 1048576) (by omega) (by omega) haAN0
 rw [e0, Option.bind_some]
 rcases Bool.eq_false_or_eq_true (decide (v0 < (0 : Int))) with hb0 | hb0
 ·rw [hb0]; rfl
 rw [hb0, cond_false]; simp only [decide_eq_false_iff_not] at hb0
 have saAN0 := b0.resolve_left hb0
 obtain ⟨v1, e1, a1, b1⟩ := f5_sz (x := aAT1) (left := v0) (by omega) (by omega) haAT1
 rw [e1, Option.bind_some]
 rcases Bool.eq_false_or_eq_true (decide (v1 < (0 : Int))) with hb1 | hb1
 ·rw [hb1]; rfl
 rw [hb1, cond_false]; simp only [decide_eq_false_iff_not] at hb1
 have saAT1 := b1.resolve_left hb1
 obtain ⟨r, m1, m2, m3⟩ := main3 haAN0 haAT1 saAN0 saAT1
 have u0 : cs_Net aAN0 ≤ 2199029547008 := by
  have h := cs_Net_le aAN0 saAN0
  exact h
 have k0 := f12_mark (x := aAN0) (k := (1 : Int)) saAN0 (by omega) (by omega)
 have u1 : cs_Train aAT1 ≤ 2097152 := by
  have h := cs_Train_le aAT1 saAT1
  exact h
 have k1 := f13_mark (x := aAT1) (k := (1 : Int) + ((cs_Net aAN0 : Nat) : Int)) saAT1 (by omega) (by omega)
 have u2 : cs_Train r ≤ 2097152 := by
  have h := cs_Train_le r m3
  exact h
 have k2 := f13_mark (x := r) (k := (1 : Int)) m3 (by omega) (by omega)
 have j2 := f14_held (x := r) (k := (1 : Int)) m3 (by omega) (by omega)
 simp only [f7_to (x := aAN0) saAN0, f8_to (x := aAT1) saAT1, f10_eq (x := aAT1) saAT1, f10_eq (x := r) m3, f11_eq (x := aAN0) saAN0, k0, ltz (show (0:Int) ≤ (1 : Int) + ((cs_Net aAN0 : Nat) : Int) by omega), k1, ltz (show (0:Int) ≤ (1 : Int) + ((cs_Net aAN0 : Nat) : Int) + ((cs_Train aAT1 : Nat) : Int) by omega), k2, ltz (show (0:Int) ≤ (1 : Int) + ((cs_Train r : Nat) : Int) by omega), j2, Option.bind_some, m1, m2, bne_self_eq_false, beq_self_eq_true, Bool.not_true, cond_false]
end
end Go.Proofs.Ytblodpbcinkehaa.K

