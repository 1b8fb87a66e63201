/-
  The plain part of the law FnExactSignalsOk: on typed values it returns true at every input. No conditions.
-/
import Derived.Test.YtgpbnbmddffhkaaDh
set_option linter.unusedVariables false
set_option linter.unusedSimpArgs false
set_option maxRecDepth 100000
namespace Go.Proofs.Ytgpbnbmddffhkaa.K
noncomputable section
open Go.ChangeShapes Go.WideShapes Go.ChangeAt Go.RowKit
abbrev fitPiece (x : Piece) : Prop := (fun s => s.size ≤ 9223372036854775807) x.Name ∧ fitsI x.Len ∧ fitsI x.Speed ∧ fitsI x.Brake
abbrev fitEnd (x : End) : Prop := fitsI x.Piece ∧ fitsI x.Side
abbrev fitJoint (x : Joint) : Prop := fitsI x.Kind ∧ (fun s => s.size ≤ 9223372036854775807) x.Name ∧ (fitsL fitEnd) x.Ends
abbrev fitNet (x : Net) : Prop := (fitsL fitPiece) x.Pieces ∧ (fitsL fitJoint) x.Joints
abbrev smJoint (x : Joint) : Prop := (smL (fun _ => True)) x.Ends
abbrev smNet (x : Net) : Prop := (smL (fun _ => True)) x.Pieces ∧ (smL smJoint) x.Joints
abbrev fitSignal (x : Signal) : Prop := (fun s => s.size ≤ 9223372036854775807) x.Name ∧ fitsI x.Piece ∧ fitsI x.At ∧ fitsI x.Way
theorem rd9 : Reads Try.prog 9 ByteArray (fun s => s.size ≤ 9223372036854775807) := reads_str Try.underlying9
theorem rd3 : Reads Try.prog 3 Int fitsI := reads_int Try.underlying3
theorem rd236 : Reads Try.prog 236 Piece fitPiece := by
  intro K enc W sp fuel cs d ps h
  obtain ⟨fu, hl, hf⟩ := trod_struct Try.underlying236 h
  have hl : cs.length = 4 := hl
  obtain ⟨_, _, h0⟩ := hf _ (List.Mem.head _)
  obtain ⟨x0, r0, g0⟩ := rd9 _ _ _ _ _ _ _ h0
  obtain ⟨_, _, h1⟩ := hf _ (List.Mem.tail _ (List.Mem.head _))
  obtain ⟨x1, r1, g1⟩ := rd3 _ _ _ _ _ _ _ h1
  obtain ⟨_, _, h2⟩ := hf _ (List.Mem.tail _ (List.Mem.tail _ (List.Mem.head _)))
  obtain ⟨x2, r2, g2⟩ := rd3 _ _ _ _ _ _ _ h2
  obtain ⟨_, _, h3⟩ := hf _ (List.Mem.tail _ (List.Mem.tail _ (List.Mem.tail _ (List.Mem.head _))))
  obtain ⟨x3, r3, g3⟩ := rd3 _ _ _ _ _ _ _ h3
  exact ⟨⟨x0, x1, x2, x3⟩, fld (off := 0) (sz := 1) r0 (fld (off := 1) (sz := 1) r1 (fld (off := 2) (sz := 1) r2 (fldLast (sz := 1) hl r3))), g0, g1, g2, g3⟩
theorem rd43 : Reads Try.prog 43 (List Piece) (fitsL fitPiece) := reads_slice Try.underlying43 rfl rd236
theorem rd321 : Reads Try.prog 321 End fitEnd := by
  intro K enc W sp fuel cs d ps h
  obtain ⟨fu, hl, hf⟩ := trod_struct Try.underlying321 h
  have hl : cs.length = 2 := hl
  obtain ⟨_, _, h0⟩ := hf _ (List.Mem.head _)
  obtain ⟨x0, r0, g0⟩ := rd3 _ _ _ _ _ _ _ h0
  obtain ⟨_, _, h1⟩ := hf _ (List.Mem.tail _ (List.Mem.head _))
  obtain ⟨x1, r1, g1⟩ := rd3 _ _ _ _ _ _ _ h1
  exact ⟨⟨x0, x1⟩, fld (off := 0) (sz := 1) r0 (fldLast (sz := 1) hl r1), g0, g1⟩
theorem rd238 : Reads Try.prog 238 (List End) (fitsL fitEnd) := reads_slice Try.underlying238 rfl rd321
theorem rd240 : Reads Try.prog 240 Joint fitJoint := by
  intro K enc W sp fuel cs d ps h
  obtain ⟨fu, hl, hf⟩ := trod_struct Try.underlying240 h
  have hl : cs.length = 3 := hl
  obtain ⟨_, _, h0⟩ := hf _ (List.Mem.head _)
  obtain ⟨x0, r0, g0⟩ := rd3 _ _ _ _ _ _ _ h0
  obtain ⟨_, _, h1⟩ := hf _ (List.Mem.tail _ (List.Mem.head _))
  obtain ⟨x1, r1, g1⟩ := rd9 _ _ _ _ _ _ _ h1
  obtain ⟨_, _, h2⟩ := hf _ (List.Mem.tail _ (List.Mem.tail _ (List.Mem.head _)))
  obtain ⟨x2, r2, g2⟩ := rd238 _ _ _ _ _ _ _ h2
  exact ⟨⟨x0, x1, x2⟩, fld (off := 0) (sz := 1) r0 (fld (off := 1) (sz := 1) r1 (fldLast (sz := 1) hl r2)), g0, g1, g2⟩
theorem rd44 : Reads Try.prog 44 (List Joint) (fitsL fitJoint) := reads_slice Try.underlying44 rfl rd240
theorem rd46 : Reads Try.prog 46 Net fitNet := by
  intro K enc W sp fuel cs d ps h
  obtain ⟨fu, hl, hf⟩ := trod_struct Try.underlying46 h
  have hl : cs.length = 2 := hl
  obtain ⟨_, _, h0⟩ := hf _ (List.Mem.head _)
  obtain ⟨x0, r0, g0⟩ := rd43 _ _ _ _ _ _ _ h0
  obtain ⟨_, _, h1⟩ := hf _ (List.Mem.tail _ (List.Mem.head _))
  obtain ⟨x1, r1, g1⟩ := rd44 _ _ _ _ _ _ _ h1
  exact ⟨⟨x0, x1⟩, fld (off := 0) (sz := 1) r0 (fldLast (sz := 1) hl r1), g0, g1⟩
theorem rd203 : Reads Try.prog 203 Signal fitSignal := by
  intro K enc W sp fuel cs d ps h
  obtain ⟨fu, hl, hf⟩ := trod_struct Try.underlying203 h
  have hl : cs.length = 4 := hl
  obtain ⟨_, _, h0⟩ := hf _ (List.Mem.head _)
  obtain ⟨x0, r0, g0⟩ := rd9 _ _ _ _ _ _ _ h0
  obtain ⟨_, _, h1⟩ := hf _ (List.Mem.tail _ (List.Mem.head _))
  obtain ⟨x1, r1, g1⟩ := rd3 _ _ _ _ _ _ _ h1
  obtain ⟨_, _, h2⟩ := hf _ (List.Mem.tail _ (List.Mem.tail _ (List.Mem.head _)))
  obtain ⟨x2, r2, g2⟩ := rd3 _ _ _ _ _ _ _ h2
  obtain ⟨_, _, h3⟩ := hf _ (List.Mem.tail _ (List.Mem.tail _ (List.Mem.tail _ (List.Mem.head _))))
  obtain ⟨x3, r3, g3⟩ := rd3 _ _ _ _ _ _ _ h3
  exact ⟨⟨x0, x1, x2, x3⟩, fld (off := 0) (sz := 1) r0 (fld (off := 1) (sz := 1) r1 (fld (off := 2) (sz := 1) r2 (fldLast (sz := 1) hl r3))), g0, g1, g2, g3⟩
theorem rd93 : Reads Try.prog 93 (List Signal) (fitsL fitSignal) := reads_slice Try.underlying93 rfl rd203
theorem f166_sz {x : Piece} {left : Int} (h0 : 0 ≤ left) (h1 : left ≤ 1048576) (hx : fitPiece x) : ∃ v, f166 x left = some v ∧ v ≤ left ∧ (v < 0 ∨ (fun _ => True) x) := by
  unfold f166
  have hz0 : x.Name.size ≤ 9223372036854775807 := hx.1
  obtain ⟨v0, e0, a0⟩ : ∃ v, w64 (left - (x.Name.size : Int)) = v ∧ v ≤ left := ⟨_, rfl, by rw [w64_id ⟨by omega, by omega⟩]; omega⟩
  rw [e0]
  rcases Bool.eq_false_or_eq_true (decide (v0 < (0 : Int))) with hb0 | hb0
  · rw [hb0]; exact ⟨_, rfl, by omega, .inl (by decide)⟩
  rw [hb0, cond_false]; simp only [decide_eq_false_iff_not] at hb0
  exact ⟨_, rfl, by omega, .inr trivial⟩
theorem f84_sz {x : List Piece} {left : Int} (h0 : 0 ≤ left) (h1 : left ≤ 1048576) (hx : (fitsL fitPiece) x) : ∃ v, f84 x left = some v ∧ v ≤ left ∧ (v < 0 ∨ (smL (fun _ => True)) x) := by
  unfold f84
  refine sz_deep (g := f166) (fit := fitPiece) (sm := (fun _ => True)) (fun x l a b c => f166_sz b c a) (fun l i x hi => ?_) (fun l => ?_) h0 h1 hx
  · unfold f84_L1
    simp only [lt_t (get_lt hi), cond_true, getI_nat, hi, Option.bind_some, Option.map_some]
  · unfold f84_L1
    simp only [lt_f, cond_false, Option.map_some]
theorem f221_sz {x : List End} {left : Int} (h0 : 0 ≤ left) (h1 : left ≤ 1048576) (hx : (fitsL fitEnd) x) : ∃ v, f221 x left = some v ∧ v ≤ left ∧ (v < 0 ∨ (smL (fun _ => True)) x) := by
  unfold f221
  obtain ⟨v, e1, e2, e3⟩ := sz_flat (xs := x) h0 h1 hx.1
  exact ⟨v, e1, e2, e3.imp id fun h => ⟨h.1, fun _ _ => trivial⟩⟩
theorem f167_sz {x : Joint} {left : Int} (h0 : 0 ≤ left) (h1 : left ≤ 1048576) (hx : fitJoint x) : ∃ v, f167 x left = some v ∧ v ≤ left ∧ (v < 0 ∨ smJoint x) := by
  unfold f167
  have hz0 : x.Name.size ≤ 9223372036854775807 := hx.2.1
  obtain ⟨v0, e0, a0⟩ : ∃ v, w64 (left - (x.Name.size : Int)) = v ∧ v ≤ left := ⟨_, rfl, by rw [w64_id ⟨by omega, by omega⟩]; omega⟩
  rw [e0]
  rcases Bool.eq_false_or_eq_true (decide (v0 < (0 : Int))) with hb0 | hb0
  · rw [hb0]; exact ⟨_, rfl, by omega, .inl (by decide)⟩
  rw [hb0, cond_false]; simp only [decide_eq_false_iff_not] at hb0
  obtain ⟨v1, e1, a1, b1⟩ := f221_sz (x := x.Ends) (left := v0) (by omega) (by omega) hx.2.2
  rw [e1, Option.bind_some]
  rcases Bool.eq_false_or_eq_true (decide (v1 < (0 : Int))) with hb1 | hb1
  · rw [hb1]; exact ⟨_, rfl, by omega, .inl (by decide)⟩
  rw [hb1, cond_false]; simp only [decide_eq_false_iff_not] at hb1
  exact ⟨_, rfl, by omega, .inr (b1.resolve_left hb1)⟩
theorem f85_sz {x : List Joint} {left : Int} (h0 : 0 ≤ left) (h1 : left ≤ 1048576) (hx : (fitsL fitJoint) x) : ∃ v, f85 x left = some v ∧ v ≤ left ∧ (v < 0 ∨ (smL smJoint) x) := by
  unfold f85
  refine sz_deep (g := f167) (fit := fitJoint) (sm := smJoint) (fun x l a b c => f167_sz b c a) (fun l i x hi => ?_) (fun l => ?_) h0 h1 hx
  · unfold f85_L1
    simp only [lt_t (get_lt hi), cond_true, getI_nat, hi, Option.bind_some, Option.map_some]
  · unfold f85_L1
    simp only [lt_f, cond_false, Option.map_some]
theorem f23_sz {x : Net} {left : Int} (h0 : 0 ≤ left) (h1 : left ≤ 1048576) (hx : fitNet x) : ∃ v, f23 x left = some v ∧ v ≤ left ∧ (v < 0 ∨ smNet x) := by
  unfold f23
  obtain ⟨v0, e0, a0, b0⟩ := f84_sz (x := x.Pieces) (left := left) (by omega) (by omega) hx.1
  rw [e0, Option.bind_some]
  rcases Bool.eq_false_or_eq_true (decide (v0 < (0 : Int))) with hb0 | hb0
  · rw [hb0]; exact ⟨_, rfl, by omega, .inl (by decide)⟩
  rw [hb0, cond_false]; simp only [decide_eq_false_iff_not] at hb0
  obtain ⟨v1, e1, a1, b1⟩ := f85_sz (x := x.Joints) (left := v0) (by omega) (by omega) hx.2
  rw [e1, Option.bind_some]
  rcases Bool.eq_false_or_eq_true (decide (v1 < (0 : Int))) with hb1 | hb1
  · rw [hb1]; exact ⟨_, rfl, by omega, .inl (by decide)⟩
  rw [hb1, cond_false]; simp only [decide_eq_false_iff_not] at hb1
  exact ⟨_, rfl, by omega, .inr ⟨b0.resolve_left hb0, b1.resolve_left hb1⟩⟩
theorem f130_sz {x : Signal} {left : Int} (h0 : 0 ≤ left) (h1 : left ≤ 1048576) (hx : fitSignal x) : ∃ v, f130 x left = some v ∧ v ≤ left ∧ (v < 0 ∨ (fun _ => True) x) := by
  unfold f130
  have hz0 : x.Name.size ≤ 9223372036854775807 := hx.1
  obtain ⟨v0, e0, a0⟩ : ∃ v, w64 (left - (x.Name.size : Int)) = v ∧ v ≤ left := ⟨_, rfl, by rw [w64_id ⟨by omega, by omega⟩]; omega⟩
  rw [e0]
  rcases Bool.eq_false_or_eq_true (decide (v0 < (0 : Int))) with hb0 | hb0
  · rw [hb0]; exact ⟨_, rfl, by omega, .inl (by decide)⟩
  rw [hb0, cond_false]; simp only [decide_eq_false_iff_not] at hb0
  exact ⟨_, rfl, by omega, .inr trivial⟩
theorem f43_sz {x : List Signal} {left : Int} (h0 : 0 ≤ left) (h1 : left ≤ 1048576) (hx : (fitsL fitSignal) x) : ∃ v, f43 x left = some v ∧ v ≤ left ∧ (v < 0 ∨ (smL (fun _ => True)) x) := by
  unfold f43
  refine sz_deep (g := f130) (fit := fitSignal) (sm := (fun _ => True)) (fun x l a b c => f130_sz b c a) (fun l i x hi => ?_) (fun l => ?_) h0 h1 hx
  · unfold f43_L1
    simp only [lt_t (get_lt hi), cond_true, getI_nat, hi, Option.bind_some, Option.map_some]
  · unfold f43_L1
    simp only [lt_f, cond_false, Option.map_some]
theorem f169_to {x : Piece} (hx : (fun _ => True) x) : f169 x = some x := by
  unfold f169
  rfl
theorem f90_to {x : List Piece} (hx : (smL (fun _ => True)) x) : f90 x = some x := by
  have hl := hx.1
  unfold f90
  rw [makeB_ok (by omega), Option.bind_some]
  have := fill x (fun y => y) (⟨ByteArray.empty, 0, 0, 0⟩ : Piece) (F := f90_L1 x) (fun ys i y hi hy => ?_) (fun ys => ?_)
  · rw [List.map_id'] at this; exact this
  · have hlt := get_lt hi
    unfold f90_L1
    have hg := f169_to (x := y) (hx.2 _ (List.mem_of_getElem? hi))
    simp only [lt_t (get_lt hi), cond_true, getI_nat, hi, Option.bind_some, hg]
    rw [List.getElem?_eq_getElem (by omega), Option.bind_some, w64_nat (by omega)]
    rfl
  · unfold f90_L1
    simp only [lt_f, cond_false, Option.map_some]
theorem f245_to {x : End} (hx : (fun _ => True) x) : f245 x = some x := by
  unfold f245
  rfl
theorem f222_to {x : List End} (hx : (smL (fun _ => True)) x) : f222 x = some x := by
  have hl := hx.1
  unfold f222
  rw [makeB_ok (by omega), Option.bind_some]
  have := fill x (fun y => y) (⟨0, 0⟩ : End) (F := f222_L1 x) (fun ys i y hi hy => ?_) (fun ys => ?_)
  · rw [List.map_id'] at this; exact this
  · have hlt := get_lt hi
    unfold f222_L1
    have hg := f245_to (x := y) (hx.2 _ (List.mem_of_getElem? hi))
    simp only [lt_t (get_lt hi), cond_true, getI_nat, hi, Option.bind_some, hg]
    rw [List.getElem?_eq_getElem (by omega), Option.bind_some, w64_nat (by omega)]
    rfl
  · unfold f222_L1
    simp only [lt_f, cond_false, Option.map_some]
theorem f170_to {x : Joint} (hx : smJoint x) : f170 x = some x := by
  unfold f170
  rw [f222_to (x := x.Ends) hx]
  rfl
theorem f91_to {x : List Joint} (hx : (smL smJoint) x) : f91 x = some x := by
  have hl := hx.1
  unfold f91
  rw [makeB_ok (by omega), Option.bind_some]
  have := fill x (fun y => y) (⟨0, ByteArray.empty, []⟩ : Joint) (F := f91_L1 x) (fun ys i y hi hy => ?_) (fun ys => ?_)
  · rw [List.map_id'] at this; exact this
  · have hlt := get_lt hi
    unfold f91_L1
    have hg := f170_to (x := y) (hx.2 _ (List.mem_of_getElem? hi))
    simp only [lt_t (get_lt hi), cond_true, getI_nat, hi, Option.bind_some, hg]
    rw [List.getElem?_eq_getElem (by omega), Option.bind_some, w64_nat (by omega)]
    rfl
  · unfold f91_L1
    simp only [lt_f, cond_false, Option.map_some]
theorem f25_to {x : Net} (hx : smNet x) : f25 x = some x := by
  unfold f25
  rw [f90_to (x := x.Pieces) hx.1, f91_to (x := x.Joints) hx.2]
  rfl
theorem f133_to {x : Signal} (hx : (fun _ => True) x) : f133 x = some x := by
  unfold f133
  rfl
theorem f45_to {x : List Signal} (hx : (smL (fun _ => True)) x) : f45 x = some x := by
  have hl := hx.1
  unfold f45
  rw [makeB_ok (by omega), Option.bind_some]
  have := fill x (fun y => y) (⟨ByteArray.empty, 0, 0, 0⟩ : Signal) (F := f45_L1 x) (fun ys i y hi hy => ?_) (fun ys => ?_)
  · rw [List.map_id'] at this; exact this
  · have hlt := get_lt hi
    unfold f45_L1
    have hg := f133_to (x := y) (hx.2 _ (List.mem_of_getElem? hi))
    simp only [lt_t (get_lt hi), cond_true, getI_nat, hi, Option.bind_some, hg]
    rw [List.getElem?_eq_getElem (by omega), Option.bind_some, w64_nat (by omega)]
    rfl
  · unfold f45_L1
    simp only [lt_f, cond_false, Option.map_some]
theorem f27_eq {x : Fault} (hx : (fun _ => True) x) : f27 x x = some true := by
  unfold f27
  simp only [bne_self_eq_false, beq_self_eq_true, Bool.not_true, cond_false]
theorem f171_eq {x : Piece} (hx : (fun _ => True) x) : f171 x x = some true := by
  unfold f171
  simp only [bne_self_eq_false, beq_self_eq_true, Bool.not_true, cond_false]
theorem f94_eq {x : List Piece} (hx : (smL (fun _ => True)) x) : f94 x x = some true := by
  unfold f94
  simp only [bne_self_eq_false, cond_false]
  refine eq_all (F := f94_L1 x x) hx.1 (fun i y hi => ?_) ?_
  · unfold f94_L1
    have hg := f171_eq (x := y) (hx.2 _ (List.mem_of_getElem? hi))
    simp only [lt_t (get_lt hi), cond_true, getI_nat, hi, Option.bind_some, hg, Bool.not_true, cond_false]
  · unfold f94_L1
    simp only [lt_f, cond_false, Option.map_some]
theorem f246_eq {x : End} (hx : (fun _ => True) x) : f246 x x = some true := by
  unfold f246
  simp only [bne_self_eq_false, beq_self_eq_true, Bool.not_true, cond_false]
theorem f223_eq {x : List End} (hx : (smL (fun _ => True)) x) : f223 x x = some true := by
  unfold f223
  simp only [bne_self_eq_false, cond_false]
  refine eq_all (F := f223_L1 x x) hx.1 (fun i y hi => ?_) ?_
  · unfold f223_L1
    have hg := f246_eq (x := y) (hx.2 _ (List.mem_of_getElem? hi))
    simp only [lt_t (get_lt hi), cond_true, getI_nat, hi, Option.bind_some, hg, Bool.not_true, cond_false]
  · unfold f223_L1
    simp only [lt_f, cond_false, Option.map_some]
theorem f172_eq {x : Joint} (hx : smJoint x) : f172 x x = some true := by
  unfold f172
  simp only [bne_self_eq_false, beq_self_eq_true, Bool.not_true, cond_false, f223_eq (x := x.Ends) hx, Option.bind_some]
theorem f95_eq {x : List Joint} (hx : (smL smJoint) x) : f95 x x = some true := by
  unfold f95
  simp only [bne_self_eq_false, cond_false]
  refine eq_all (F := f95_L1 x x) hx.1 (fun i y hi => ?_) ?_
  · unfold f95_L1
    have hg := f172_eq (x := y) (hx.2 _ (List.mem_of_getElem? hi))
    simp only [lt_t (get_lt hi), cond_true, getI_nat, hi, Option.bind_some, hg, Bool.not_true, cond_false]
  · unfold f95_L1
    simp only [lt_f, cond_false, Option.map_some]
theorem f28_eq {x : Net} (hx : smNet x) : f28 x x = some true := by
  unfold f28
  simp only [bne_self_eq_false, beq_self_eq_true, Bool.not_true, cond_false, f94_eq (x := x.Pieces) hx.1, f95_eq (x := x.Joints) hx.2, Option.bind_some]
theorem f134_eq {x : Signal} (hx : (fun _ => True) x) : f134 x x = some true := by
  unfold f134
  simp only [bne_self_eq_false, beq_self_eq_true, Bool.not_true, cond_false]
theorem f47_eq {x : List Signal} (hx : (smL (fun _ => True)) x) : f47 x x = some true := by
  unfold f47
  simp only [bne_self_eq_false, cond_false]
  refine eq_all (F := f47_L1 x x) hx.1 (fun i y hi => ?_) ?_
  · unfold f47_L1
    have hg := f134_eq (x := y) (hx.2 _ (List.mem_of_getElem? hi))
    simp only [lt_t (get_lt hi), cond_true, getI_nat, hi, Option.bind_some, hg, Bool.not_true, cond_false]
  · unfold f47_L1
    simp only [lt_f, cond_false, Option.map_some]
theorem str_eq (a b : ByteArray) : (a.toList == b.toList) = decide (a = b) := by
  rw [Bool.eq_iff_iff, decide_eq_true_eq, ByteArray.toList_eq, ByteArray.toList_eq, beq_iff_eq]
  exact ⟨fun h => by cases a; cases b; simp only [Array.toList_inj] at h; rw [h], fun h => by rw [h]⟩
/-- The first place, if any, at which a search ends. -/
def firstO {ρ : Type} (n : Nat) (b : Nat → Option ρ) (e : Option ρ) : Option ρ := match (List.range n).findSome? b with | some r => some r | none => e
theorem firstO_none {ρ : Type} {n : Nat} {b : Nat → Option ρ} {e : Option ρ} (h : ∀ i, i < n → b i = none) : firstO n b e = e := by
  unfold firstO
  rw [List.findSome?_eq_none_iff.2 (fun x hx => h x (List.mem_range.1 hx))]
theorem firstO_some {ρ : Type} {n : Nat} {b : Nat → Option ρ} {e : Option ρ} {i : Nat} {r : ρ} (hi : i < n) (h : ∀ j, j < i → b j = none) (hr : b i = some r) : firstO n b e = some r := by
  unfold firstO
  have e1 : n = i + ((n - i - 1) + 1) := by omega
  have h0 : (List.range i).findSome? b = none := List.findSome?_eq_none_iff.2 fun x hx => h x (List.mem_range.1 hx)
  rw [e1, List.range_add, List.findSome?_append, h0, List.range_succ_eq_map]
  simp [hr]
/-- A search is: no place ends it, or a first one does. -/
theorem first_cases {ρ : Type} (n : Nat) (b : Nat → Option ρ) : (∀ i, i < n → b i = none) ∨ ∃ i r, i < n ∧ (∀ j, j < i → b j = none) ∧ b i = some r := by
  induction n with
  | zero => exact .inl (fun i hi => by omega)
  | succ n ih =>
    rcases ih with h | ⟨i, r, h1, h2, h3⟩
    · cases hb : b n with
      | none =>
        refine .inl (fun i hi => ?_)
        rcases Nat.lt_or_ge i n with hl | hl
        · exact h i hl
        · have : i = n := by omega
          subst this; exact hb
      | some r => exact .inr ⟨n, r, by omega, h, hb⟩
    · exact .inr ⟨i, r, by omega, h2, h3⟩
/-- A loop that searches. -/
theorem loop_find {σ ρ : Type} {F : σ → Option (σ ⊕ ρ)} (n : Nat) (st : Nat → σ) (b : Nat → Option ρ) (e : Option ρ) (h : ∀ i, i < n → (∀ j, j < i → b j = none) → F (st i) = some ((b i).elim (.inl (st (i + 1))) .inr)) (hend : (∀ j, j < n → b j = none) → F (st n) = e.map .inr) : loopO F (st 0) = firstO n b e := by
  have key : ∀ k i, i + k = n → (∀ j, j < i → b j = none) → loopO F (st i) = firstO n b e := by
    intro k
    induction k with
    | zero =>
      intro i hi hb
      have : i = n := by omega
      subst this
      rw [loopO_eq, hend hb, firstO_none hb]
      cases e <;> rfl
    | succ k ih =>
      intro i hi hb
      rw [loopO_eq, h i (by omega) hb]
      cases hr : b i with
      | some r => rw [firstO_some (by omega) hb hr]; rfl
      | none =>
        simp only [Option.bind_some, Option.elim]
        refine ih (i + 1) (by omega) (fun j hj => ?_)
        rcases Nat.lt_or_ge j i with hl | hl
        · exact hb j hl
        · have : j = i := by omega
          subst this; exact hr
  exact key n 0 (by omega) (fun j hj => by omega)
/-- A loop that gathers. -/
theorem loop_fold {α β ρ : Type} {F : β × Int → Option ((β × Int) ⊕ ρ)} (xs : List α) (g : β → α → β) (a0 : β) (e : β → Option ρ) (h : ∀ (a : β) (i : Nat) (x : α), xs[i]? = some x → F (a, (i : Int)) = some (.inl (g a x, ((i + 1 : Nat) : Int)))) (hend : ∀ a, F (a, (xs.length : Int)) = (e a).map .inr) : loopO F (a0, (0 : Int)) = e (xs.foldl g a0) := by
  have key : ∀ k i (a : β), i + k = xs.length → loopO F (a, (i : Int)) = e ((xs.drop i).foldl g a) := by
    intro k
    induction k with
    | zero =>
      intro i a hi
      have : i = xs.length := by omega
      subst this
      rw [loopO_eq, hend, List.drop_length, List.foldl_nil]
      cases e a <;> rfl
    | succ k ih =>
      intro i a hi
      have hlt : i < xs.length := by omega
      rw [loopO_eq, h a i _ (List.getElem?_eq_getElem hlt), List.drop_eq_getElem_cons hlt, List.foldl_cons]
      exact ih (i + 1) _ (by omega)
  have := key xs.length 0 a0 (by omega)
  simpa using this
section
variable {κ ν : Type} [DecidableEq κ]
theorem mfind_none {k : κ} : ∀ {m : List (κ × ν)} {i : Nat}, mfind k m i = none → ∀ j, mfind k m j = none
  | [], _, _, _ => rfl
  | e :: m, i, h, j => by
    unfold mfind at h ⊢
    split at h
    · cases h
    · rename_i hk; rw [if_neg hk]; exact mfind_none h (j + 1)
theorem mget_cons (k : κ) (e : κ × ν) (m : List (κ × ν)) (z : ν) : mget k (e :: m) z = if k = e.1 then e.2 else mget k m z := by
  by_cases hk : k = e.1
  · rw [if_pos hk]
    unfold mget mfind
    rw [if_pos hk]
  · rw [if_neg hk]
    unfold mget
    have h0 : mfind k (e :: m) 0 = mfind k m (0 + 1) := by rw [mfind, if_neg hk]
    rw [h0]
    have key : ∀ (m : List (κ × ν)) i j, (mfind k m i).map (·.2) = (mfind k m j).map (·.2) := by
      intro m
      induction m with
      | nil => intro i j; rfl
      | cons e m ih =>
        intro i j
        unfold mfind
        split
        · rfl
        · exact ih _ _
    have := key m (0 + 1) 0
    cases h1 : mfind k m (0 + 1) <;> cases h2 : mfind k m 0 <;> rw [h1, h2] at this <;> simp_all
theorem mget_append (k k' : κ) (v : ν) (z : ν) : ∀ (m : List (κ × ν)), mfind k' m 0 = none → mget k (m ++ [(k', v)]) z = if k = k' then v else mget k m z
  | [], _ => by rw [List.nil_append, mget_cons]
  | e :: m, h => by
    have h' : k' ≠ e.1 ∧ mfind k' m 0 = none := by
      unfold mfind at h
      split at h
      · cases h
      · rename_i hk; exact ⟨hk, mfind_none h 0⟩
    rw [List.cons_append, mget_cons, mget_append k k' v z m h'.2, mget_cons]
    by_cases h1 : k = e.1
    · rw [if_pos h1, if_pos h1, if_neg (fun (h2 : k = k') => h'.1 (h2 ▸ h1))]
    · rw [if_neg h1, if_neg h1]
theorem mget_setAt (k k' : κ) (v : ν) (z : ν) : ∀ (m : List (κ × ν)) (n i : Nat) (x : ν), mfind k' m n = some (n + i, x) → mget k (m.set i (k', v)) z = if k = k' then v else mget k m z
  | [], _, _, _, h => by cases h
  | e :: m, n, i, x, h => by
    unfold mfind at h
    split at h
    · rename_i hk
      simp only [Option.some.injEq, Prod.mk.injEq] at h
      have : i = 0 := by omega
      subst this
      rw [List.set_cons_zero, mget_cons, mget_cons, hk]
      by_cases h1 : k = e.1
      · rw [if_pos h1, if_pos h1]
      · rw [if_neg h1, if_neg h1, if_neg h1]
    · rename_i hk
      have hi := (mfind_get h).1
      simp only [] at hi
      obtain ⟨i', rfl⟩ : ∃ i', i = i' + 1 := ⟨i - 1, by omega⟩
      rw [List.set_cons_succ, mget_cons, mget_setAt k k' v z m (n + 1) i' x (by rw [h]; congr 2; omega), mget_cons]
      by_cases h1 : k = e.1
      · rw [if_pos h1, if_pos h1, if_neg (fun (h2 : k = k') => hk (h2 ▸ h1))]
      · rw [if_neg h1, if_neg h1]
theorem mget_mset (k k' : κ) (v z : ν) (m : List (κ × ν)) : mget k (mset k' v m) z = if k = k' then v else mget k m z := by
  unfold mset
  cases h : mfind k' m 0 with
  | none => exact mget_append k k' v z m h
  | some x =>
    obtain ⟨i, y⟩ := x
    exact mget_setAt k k' v z m 0 i y (by rw [h, Nat.zero_add])
/-- What has been set under keys of a list. -/
theorem mget_keys {α : Type} (p : α → Bool) (f : α → κ) (xs : List α) (k : κ) : mget k (xs.foldl (fun m x => bif p x then mset (f x) true m else m) []) false = xs.any fun x => p x && decide (f x = k) := by
  have key : ∀ (xs : List α) (m : List (κ × Bool)), mget k (xs.foldl (fun m x => bif p x then mset (f x) true m else m) m) false = (mget k m false || xs.any fun x => p x && decide (f x = k)) := by
    intro xs
    induction xs with
    | nil => intro m; simp
    | cons x xs ih =>
      intro m
      rw [List.foldl_cons, ih, List.any_cons]
      cases hp : p x with
      | false => simp
      | true =>
        rw [cond_true, mget_mset]
        by_cases hk : k = f x
        · rw [if_pos hk]; simp [hk]
        · rw [if_neg hk]
          have : decide (f x = k) = false := decide_eq_false (fun h => hk h.symm)
          simp [this]
  rw [key]
  rfl
end
theorem firstO_any {ρ : Type} (n : Nat) (p : Nat → Bool) (r : ρ) (e : Option ρ) : firstO n (fun i => bif p i then some r else none) e = bif (List.range n).any p then some r else e := by
  rcases first_cases n (fun i => bif p i then some r else none) with h | ⟨i, r', hi, hj, hr⟩
  · rw [firstO_none h]
    have : (List.range n).any p = false := by
      rw [List.any_eq_false]
      intro x hx
      have := h x (List.mem_range.1 hx)
      cases hp : p x <;> simp_all
    rw [this]; rfl
  · rw [firstO_some hi hj hr]
    have hp : p i = true := by cases hp : p i <;> simp_all
    have : (List.range n).any p = true := List.any_eq_true.2 ⟨i, List.mem_range.2 hi, hp⟩
    rw [this]
    simp_all
theorem firstO_all (n : Nat) (p : Nat → Bool) (e : Bool) : firstO n (fun i => bif p i then none else some false) (some e) = some ((List.range n).all p && e) := by
  have : (fun i => bif p i then (none : Option Bool) else some false) = fun i => bif !p i then some false else none := by funext i; cases p i <;> rfl
  rw [this, firstO_any]
  have : ((List.range n).any fun i => !p i) = !((List.range n).all p) := by rw [List.not_all_eq_any_not]
  rw [this]
  cases (List.range n).all p <;> rfl
theorem firstO_is {ρ : Type} (n : Nat) (b : Nat → Option ρ) {e : Option ρ} (h : ∃ r, e = some r) : ∃ r, firstO n b e = some r := by
  unfold firstO
  split
  · exact ⟨_, rfl⟩
  · exact h
theorem firstO_congr {ρ : Type} {n : Nat} {b b' : Nat → Option ρ} {e e' : Option ρ} (h : ∀ i, i < n → b i = b' i) (he : (∀ i, i < n → b i = none) → e = e') : firstO n b e = firstO n b' e' := by
  rcases first_cases n b with h1 | ⟨i, r, hi, hj, hr⟩
  · rw [firstO_none h1, firstO_none (fun i hi => by rw [← h i hi]; exact h1 i hi)]; exact he h1
  · rw [firstO_some hi hj hr, firstO_some hi (fun j hl => by rw [← h j (by omega)]; exact hj j hl) (by rw [← h i hi]; exact hr)]
theorem cond_some {α : Type} (b : Bool) (x y : α) : (bif b then some x else some y) = some (bif b then x else y) := by cases b <;> rfl
theorem range_any_take {α : Type} (xs : List α) (g : α → Bool) : ∀ i, ((List.range i).any fun j => (xs[j]?).any g) = (xs.take i).any g
  | 0 => by simp
  | i + 1 => by
    rw [List.range_succ, List.any_append, range_any_take xs g i, List.take_add_one, List.any_append, List.any_cons, List.any_nil, Bool.or_false]
    cases xs[i]? <;> simp [Option.any]
theorem foldl_take {α β : Type} (g : β → α → β) (a : β) {xs : List α} {i : Nat} {x : α} (h : xs[i]? = some x) : (xs.take (i + 1)).foldl g a = g ((xs.take i).foldl g a) x := by
  rw [List.take_add_one, List.foldl_append, h]; rfl
theorem byteAt_ok {s : ByteArray} {i : Nat} (h : i < s.size) : byteAt s (i : Int) = some ((byteAt s (i : Int)).getD 0) := by
  unfold byteAt
  rw [if_pos (by omega), Int.toNat_natCast, getElem?_pos s i h]
  rfl
theorem loopO_elim {σ ρ : Type} (F : σ → Option (σ ⊕ ρ)) (s : σ) : loopO F s = (F s).bind (Sum.elim (loopO F) some) := by
  rw [loopO_eq]
  congr 1
  funext x
  cases x <;> rfl
theorem firstO_step {σ ρ : Type} (n : Nat) (b : Nat → Option ρ) (s : σ) (k : σ → Option ρ) : ((firstO n (fun i => (b i).map Sum.inr) (some (.inl s))).bind (Sum.elim k some)) = firstO n b (k s) := by
  rcases first_cases n b with h | ⟨i, r, hi, hj, hr⟩
  · rw [firstO_none h, firstO_none (fun i hi => by rw [h i hi]; rfl)]; rfl
  · rw [firstO_some hi hj hr, firstO_some (r := .inr r) hi (fun j hl => by rw [hj j hl]; rfl) (by rw [hr]; rfl)]; rfl
theorem mget_counts {κ : Type} [DecidableEq κ] (xs : List κ) (k : κ) : mget k (xs.foldl (fun m x => mset x (w64 (mget x m 0 + 1)) m) []) 0 = xs.foldl (fun a x => bif decide (x = k) then w64 (a + 1) else a) (0 : Int) := by
  have key : ∀ (xs : List κ) (m : List (κ × Int)), mget k (xs.foldl (fun m x => mset x (w64 (mget x m 0 + 1)) m) m) 0 = xs.foldl (fun a x => bif decide (x = k) then w64 (a + 1) else a) (mget k m 0) := by
    intro xs
    induction xs with
    | nil => intro m; rfl
    | cons x xs ih =>
      intro m
      rw [List.foldl_cons, ih, List.foldl_cons, mget_mset]
      by_cases hk : x = k
      · subst hk; simp
      · rw [if_neg (fun h => hk h.symm)]; simp [hk]
  rw [key]
  rfl
theorem firstO_mem {ρ : Type} {n : Nat} {b : Nat → Option ρ} {e : Option ρ} {r : ρ} (h : firstO n b e = some r) : (∃ i, i < n ∧ b i = some r) ∨ ((∀ i, i < n → b i = none) ∧ e = some r) := by
  rcases first_cases n b with h1 | ⟨i, r', hi, hj, hr⟩
  · rw [firstO_none h1] at h; exact .inr ⟨h1, h⟩
  · rw [firstO_some hi hj hr] at h; exact .inl ⟨i, hi, hr.trans h⟩
theorem bif_some {α : Type} {b : Bool} {x y : α} (h : (bif b then some x else none) = some y) : b = true ∧ x = y := by
  cases b
  · cases h
  · exact ⟨rfl, by simpa using h⟩
theorem bif_none {α : Type} {b : Bool} {x : α} (h : (bif b then some x else none) = none) : b = false := by
  cases b
  · rfl
  · cases h
/-- Is a byte one of a name's? -/
def nameByte (c : Int) : Bool := ((decide (c ≥ (97:Int)) && decide (c ≤ (122:Int))) || (decide (c ≥ (48:Int)) && decide (c ≤ (57:Int)))) || (c == (95:Int))
def namedB (s : ByteArray) : Bool := ((List.range s.size).all fun i => nameByte ((byteAt s (i : Int)).getD 0)) && (decide ((s.size : Int) ≥ (1:Int)) && decide ((s.size : Int) ≤ (20:Int)))
theorem l11name_eq {s : ByteArray} (h : s.size ≤ 9223372036854775807) : f86 s = some (namedB s) := by
  unfold f86
  refine (loop_find s.size (fun i => (i : Int)) (fun i => bif nameByte ((byteAt s (i : Int)).getD 0) then none else some false) (some (decide ((s.size : Int) ≥ (1:Int)) && decide ((s.size : Int) ≤ (20:Int)))) (fun i hi _ => ?_) (fun _ => ?_)).trans (firstO_all _ _ _)
  · unfold f86_L1
    have hb := byteAt_ok hi
    generalize (byteAt s (i : Int)).getD 0 = c at hb ⊢
    simp only [lt_t hi, cond_true, hb, Option.bind_some, w64_nat (show i < 9223372036854775807 by omega)]
    show (bif !(nameByte c) then _ else _) = _
    cases nameByte c <;> rfl
  · unfold f86_L1
    simp only [lt_f, cond_false]
theorem named_eq {s : ByteArray} (h : s.size ≤ 9223372036854775807) : f93 s = some (namedB s) := by
  unfold f93
  have h1 : (decide ((s.size : Int) ≥ (1:Int)) && decide ((s.size : Int) ≤ (20:Int))) = !(decide ((s.size : Int) < (1:Int)) || decide ((s.size : Int) > (20:Int))) := by
    rw [Bool.eq_iff_iff]; simp
  unfold namedB
  rw [h1]
  cases decide ((s.size : Int) < (1:Int)) || decide ((s.size : Int) > (20:Int)) with
  | true => simp
  | false =>
    rw [cond_false]
    refine (loop_find s.size (fun i => (i : Int)) (fun i => bif nameByte ((byteAt s (i : Int)).getD 0) then none else some false) (some true) (fun i hi _ => ?_) (fun _ => ?_)).trans (firstO_all _ _ _)
    · unfold f93_L1
      have hb := byteAt_ok hi
      generalize (byteAt s (i : Int)).getD 0 = c at hb ⊢
      simp only [lt_t hi, cond_true, hb, Option.bind_some, w64_nat (show i < 9223372036854775807 by omega)]
      show (bif !(nameByte c) then _ else _) = _
      cases nameByte c <;> rfl
    · unfold f93_L1
      simp only [lt_f, cond_false]
def okP (p : Piece) : Bool := ((((((namedB p.Name && decide (p.Len ≥ (1:Int))) && decide (p.Len ≤ (10000000:Int))) && decide (p.Speed ≥ (1:Int))) && decide (p.Speed ≤ (10000:Int))) && decide (p.Brake ≥ (1:Int))) && decide (p.Brake ≤ (1000:Int)))
def badP (n : Net) (i : Nat) : Bool := (n.Pieces[i]?).any fun p => !okP p || (n.Pieces.take i).any fun q => decide (q.Name = p.Name)
def okE (n : Net) (e : End) : Bool := (decide (e.Piece ≥ (0:Int)) && decide (e.Piece < (n.Pieces.length : Int))) && (decide (e.Side ≥ (0:Int)) && decide (e.Side ≤ (1:Int)))
def bad3 (n : Net) (c : Joint) : Bool := (decide (c.Kind < (1:Int)) || decide (c.Kind > (4:Int))) || ((c.Ends.length : Int) != c.Kind) || c.Ends.any fun e => !okE n e
def bad4 (n : Net) (i : Nat) (c : Joint) : Bool := bif decide (c.Kind ≤ (2:Int)) then !decide (c.Name = ({ data := #[] } : ByteArray)) else !namedB c.Name || (n.Joints.take i).any fun d => decide (d.Name = c.Name)
def endsOf (n : Net) : List End := n.Joints.flatMap (·.Ends)
def usesOf (n : Net) (e : End) : Int := (endsOf n).foldl (fun a x => bif decide (x = e) then w64 (a + 1) else a) 0
def bad5 (n : Net) (i : Nat) : Bool := (usesOf n ⟨(i : Int), 0⟩ != 1) || (usesOf n ⟨(i : Int), 1⟩ != 1)
def netO (n : Net) : Option Fault :=
  bif ((((n.Pieces.length : Int) == (0:Int)) || decide ((n.Pieces.length : Int) > (100:Int))) || decide ((n.Joints.length : Int) > (120:Int))) then some ⟨1, 0⟩ else
  firstO n.Pieces.length (fun i => bif badP n i then some ⟨2, (i : Int)⟩ else none) <|
  firstO n.Joints.length (fun i => bif (n.Joints[i]?).any (bad3 n) then some ⟨3, (i : Int)⟩ else none) <|
  firstO n.Joints.length (fun i => bif (n.Joints[i]?).any (bad4 n i) then some ⟨4, (i : Int)⟩ else none) <|
  firstO n.Pieces.length (fun i => bif bad5 n i then some ⟨5, (i : Int)⟩ else none) (some ⟨0, 0⟩)
theorem netO_is (n : Net) : ∃ r, netO n = some r := by
  unfold netO
  cases ((((n.Pieces.length : Int) == (0:Int)) || decide ((n.Pieces.length : Int) > (100:Int))) || decide ((n.Joints.length : Int) > (120:Int))) with
  | true => exact ⟨_, rfl⟩
  | false => exact firstO_is _ _ (firstO_is _ _ (firstO_is _ _ (firstO_is _ _ ⟨_, rfl⟩)))
theorem in_eq (x a b : Int) : f87 x a b = some (decide (x ≥ a) && decide (x ≤ b)) := rfl
theorem w64_i {n : Nat} (h : n ≤ 1048576) (i : Nat) (hi : i < n) : w64 ((i : Int) + 1) = ((i + 1 : Nat) : Int) := w64_nat (by omega)
/-- What the rules ask of the pieces, as the reference says it. -/
theorem spec_piece {x : Net} (hx : fitNet x) (hs : smNet x) {i : Nat} (hi : i < x.Pieces.length) : f24_L1 x (i : Int) = some ((bif badP x i then some (⟨2, (i : Int)⟩ : Fault) else none).elim (.inl (((i + 1 : Nat) : Int))) .inr) := by
  have hl := hs.1.1
  obtain ⟨p, hp⟩ : ∃ p, x.Pieces[i]? = some p := ⟨_, List.getElem?_eq_getElem hi⟩
  have hf := hx.1.2 p (List.mem_of_getElem? hp)
  have hL : loopO (f24_L2 x (i : Int) p) (0 : Int) = some (bif (x.Pieces.take i).any fun q => decide (q.Name = p.Name) then .inr ⟨2, (i : Int)⟩ else .inl ((i + 1 : Nat) : Int)) := by
    refine (loop_find i (fun j => (j : Int)) (fun j => bif (x.Pieces[j]?).any (fun q => decide (q.Name = p.Name)) then some (.inr ⟨2, (i : Int)⟩) else none) (some (.inl ((i + 1 : Nat) : Int))) (fun j hj _ => ?_) (fun _ => ?_)).trans ?_
    · unfold f24_L2
      have hjl : j < x.Pieces.length := by omega
      simp only [lt_t hj, cond_true, getI_nat, List.getElem?_eq_getElem hjl, Option.bind_some, str_eq, w64_nat (show j < 9223372036854775807 by omega), Option.any_some]
      cases decide (x.Pieces[j].Name = p.Name) <;> rfl
    · unfold f24_L2
      simp only [lt_f, cond_false, w64_nat (show i < 9223372036854775807 by omega)]
    · rw [firstO_any, range_any_take, cond_some]
  unfold f24_L1
  simp only [lt_t hi, cond_true, getI_nat, hp, Option.bind_some, l11name_eq hf.1, in_eq, cond_some, hL]
  have hb : badP x i = (!okP p || (x.Pieces.take i).any fun q => decide (q.Name = p.Name)) := by unfold badP; rw [hp]; rfl
  rw [hb]
  unfold okP
  cases namedB p.Name <;> cases decide (p.Len ≥ (1:Int)) <;> cases decide (p.Len ≤ (10000000:Int)) <;> cases decide (p.Speed ≥ (1:Int)) <;> cases decide (p.Speed ≤ (10000:Int)) <;> cases decide (p.Brake ≥ (1:Int)) <;> cases decide (p.Brake ≤ (1000:Int)) <;> cases ((x.Pieces.take i).any fun q => decide (q.Name = p.Name)) <;> rfl
def namesOf (x : Net) (i : Nat) : List (ByteArray × Bool) := (x.Pieces.take i).foldl (fun m p => bif true then mset p.Name true m else m) []
theorem impl_piece {x : Net} (hx : fitNet x) (hs : smNet x) {i : Nat} (hi : i < x.Pieces.length) : f26_L1 x (namesOf x i, (i : Int)) = some ((bif badP x i then some (⟨2, (i : Int)⟩ : Fault) else none).elim (.inl ((namesOf x (i + 1), ((i + 1 : Nat) : Int)))) .inr) := by
  have hl := hs.1.1
  obtain ⟨p, hp⟩ : ∃ p, x.Pieces[i]? = some p := ⟨_, List.getElem?_eq_getElem hi⟩
  have hf := hx.1.2 p (List.mem_of_getElem? hp)
  have hm : mget p.Name (namesOf x i) false = (x.Pieces.take i).any fun q => decide (q.Name = p.Name) := by
    unfold namesOf
    rw [mget_keys (fun _ => true) (fun q : Piece => q.Name)]
    rfl
  have hn : namesOf x (i + 1) = mset p.Name true (namesOf x i) := foldl_take _ _ hp
  have hb : badP x i = (!okP p || (x.Pieces.take i).any fun q => decide (q.Name = p.Name)) := by unfold badP; rw [hp]; rfl
  have ho : f92 p = some (okP p) := by
    unfold f92
    rw [named_eq hf.1]; rfl
  unfold f26_L1
  simp only [lt_t hi, cond_true, getI_nat, hp, Option.bind_some, ho, hm, hb, hn, w64_nat (show i < 9223372036854775807 by omega)]
  cases okP p <;> cases ((x.Pieces.take i).any fun q => decide (q.Name = p.Name)) <;> rfl
theorem end_eq {x : Net} (hs : smNet x) (e : End) : f168 x e = some (okE x e) := by
  have h1 := hs.1.1
  unfold f168
  simp only [in_eq, Option.bind_some, cond_some]
  rw [le_pred (by omega)]
  unfold okE
  cases decide (e.Piece ≥ (0:Int)) <;> cases decide (e.Piece < (x.Pieces.length : Int)) <;> rfl
theorem lt3 (k : Int) : decide (k < (3:Int)) = decide (k ≤ (2:Int)) := by congr 1; apply propext; omega
theorem spec_joint {x : Net} (hx : fitNet x) (hs : smNet x) {i : Nat} {c : Joint} (hc : x.Joints[i]? = some c) : f88 x (i : Int) = some (bif bad3 x c then 3 else bif bad4 x i c then 4 else 0) := by
  have hi := get_lt hc
  have hl := hs.2.1
  have hm := List.mem_of_getElem? hc
  have hf := hx.2.2 c hm
  have hel : c.Ends.length ≤ 1048576 := (hs.2.2 c hm).1
  have hL2 : loopO (f88_L2 x (i : Int) c) (0 : Int) = some (bif (x.Joints.take i).any fun q => decide (q.Name = c.Name) then 4 else 0) := by
    refine (loop_find i (fun j => (j : Int)) (fun j => bif (x.Joints[j]?).any (fun q => decide (q.Name = c.Name)) then some 4 else none) (some 0) (fun j hj _ => ?_) (fun _ => ?_)).trans ?_
    · unfold f88_L2
      have hjl : j < x.Joints.length := by omega
      simp only [lt_t hj, cond_true, getI_nat, List.getElem?_eq_getElem hjl, Option.bind_some, str_eq, w64_nat (show j < 9223372036854775807 by omega), Option.any_some]
      cases decide (x.Joints[j].Name = c.Name) <;> rfl
    · unfold f88_L2
      simp only [lt_f, cond_false]
    · rw [firstO_any, range_any_take, cond_some]
  have hL1 : loopO (f88_L1 x (i : Int) c) (0 : Int) = some (bif c.Ends.any (fun e => !okE x e) then 3 else bif bad4 x i c then 4 else 0) := by
    refine (loop_find c.Ends.length (fun j => (j : Int)) (fun j => bif (c.Ends[j]?).any (fun e => !okE x e) then some 3 else none) (some (bif bad4 x i c then 4 else 0)) (fun j hj _ => ?_) (fun _ => ?_)).trans ?_
    · unfold f88_L1
      simp only [lt_t hj, cond_true, getI_nat, List.getElem?_eq_getElem hj, Option.bind_some, end_eq hs, w64_nat (show j < 9223372036854775807 by omega), Option.any_some]
      cases okE x c.Ends[j] <;> rfl
    · unfold f88_L1
      simp only [lt_f, cond_false, l11name_eq hf.2.1, hL2, Option.bind_some, str_eq, lt3, cond_some]
      unfold bad4
      cases decide (c.Kind ≤ (2:Int)) <;> cases decide (c.Name = ({ data := #[] } : ByteArray)) <;> cases namedB c.Name <;> cases ((x.Joints.take i).any fun d => decide (d.Name = c.Name)) <;> rfl
    · rw [firstO_any, range_any_take, List.take_length, cond_some]
  unfold f88
  simp only [getI_nat, hc, Option.bind_some, in_eq, hL1, cond_some]
  have hk : (!(decide (c.Kind ≥ (1:Int)) && decide (c.Kind ≤ (4:Int)))) = (decide (c.Kind < (1:Int)) || decide (c.Kind > (4:Int))) := by
    rw [Bool.eq_iff_iff]; simp
  rw [hk]
  unfold bad3
  cases (decide (c.Kind < (1:Int)) || decide (c.Kind > (4:Int))) <;> cases ((c.Ends.length : Int) != c.Kind) <;> cases (c.Ends.any fun e => !okE x e) <;> rfl
theorem end_is (a b : End) : ((a.Piece == b.Piece) && ((a.Side == b.Side) && true)) = decide (a = b) := by
  cases a; cases b
  rw [Bool.eq_iff_iff]
  simp
theorem spec_uses {x : Net} (hs : smNet x) (e : End) : f89 x e = some (usesOf x e) := by
  have hl := hs.2.1
  unfold f89
  refine (loop_fold x.Joints (fun a (c : Joint) => c.Ends.foldl (fun a x => bif decide (x = e) then w64 (a + 1) else a) a) 0 some (fun a i c hc => ?_) (fun a => ?_)).trans ?_
  · have hi := get_lt hc
    have hel : c.Ends.length ≤ 1048576 := (hs.2.2 c (List.mem_of_getElem? hc)).1
    unfold f89_L1
    simp only [lt_t hi, cond_true, getI_nat, hc, Option.bind_some]
    refine (loop_fold c.Ends (fun a x => bif decide (x = e) then w64 (a + 1) else a) a (fun a => (some (.inl (a, ((i + 1 : Nat) : Int))) : Option ((Int × Int) ⊕ Int))) (fun b j y hy => ?_) (fun b => ?_))
    · have hj := get_lt hy
      unfold f89_L2 f89_k3
      simp only [lt_t hj, cond_true, getI_nat, hy, Option.bind_some, end_is, w64_nat (show j < 9223372036854775807 by omega)]
      cases decide (y = e) <;> rfl
    · unfold f89_L2
      simp only [lt_f, cond_false, w64_nat (show i < 9223372036854775807 by omega)]
  · unfold f89_L1
    simp only [lt_f, cond_false]
  · unfold usesOf endsOf
    rw [List.foldl_flatMap]
theorem lt2 {i : Nat} (h : i < 2) : decide ((i : Int) < (2:Int)) = true := by rw [decide_eq_true_eq]; omega
/-- The ends, as the reference counts them. -/
theorem spec_ends {x : Net} (hs : smNet x) : loopO (f24_L5 x) (0 : Int) = firstO x.Pieces.length (fun i => bif bad5 x i then some ⟨5, (i : Int)⟩ else none) (some ⟨0, 0⟩) := by
  have hl := hs.1.1
  refine loop_find x.Pieces.length (fun i => (i : Int)) _ _ (fun i hi _ => ?_) (fun _ => ?_)
  · unfold f24_L5
    simp only [lt_t hi, cond_true]
    refine (loop_find 2 (fun s => (s : Int)) (fun s => bif usesOf x ⟨(i : Int), (s : Int)⟩ != 1 then some (.inr ⟨5, (i : Int)⟩) else none) (some (.inl ((i + 1 : Nat) : Int))) (fun s hs2 _ => ?_) (fun _ => ?_)).trans ?_
    · unfold f24_L6
      simp only [lt2 hs2, cond_true, spec_uses hs, Option.bind_some, w64_nat (show s < 9223372036854775807 by omega)]
      cases (usesOf x ⟨(i : Int), (s : Int)⟩ != 1) <;> rfl
    · unfold f24_L6
      have : decide (((2 : Nat) : Int) < (2:Int)) = false := by decide
      simp only [this, cond_false, w64_nat (show i < 9223372036854775807 by omega)]
    · rw [firstO_any]
      unfold bad5
      have : ((List.range 2).any fun s : Nat => usesOf x ⟨(i : Int), (s : Int)⟩ != 1) = ((usesOf x ⟨(i : Int), 0⟩ != 1) || (usesOf x ⟨(i : Int), 1⟩ != 1)) := by
        simp [List.range_succ]
      rw [this]
      cases ((usesOf x ⟨(i : Int), 0⟩ != 1) || (usesOf x ⟨(i : Int), 1⟩ != 1)) <;> rfl
  · unfold f24_L5
    simp only [lt_f, cond_false]
theorem spec_code {x : Net} (hx : fitNet x) (hs : smNet x) (k : Nat) (hk : k < 100) : loopO (f24_L4 x (k : Int)) (0 : Int) = firstO x.Joints.length (fun i => (bif (x.Joints[i]?).any (fun c => (bif bad3 x c then 3 else bif bad4 x i c then 4 else 0) == (k : Int)) then some (⟨(k : Int), (i : Int)⟩ : Fault) else none).map Sum.inr) (some (.inl ((k + 1 : Nat) : Int))) := by
  have hl := hs.2.1
  refine loop_find x.Joints.length (fun i => (i : Int)) _ _ (fun i hi _ => ?_) (fun _ => ?_)
  · unfold f24_L4
    simp only [lt_t hi, cond_true, spec_joint hx hs (List.getElem?_eq_getElem hi), List.getElem?_eq_getElem hi, Option.any_some, Option.bind_some, w64_nat (show i < 9223372036854775807 by omega)]
    cases ((bif bad3 x x.Joints[i] then 3 else bif bad4 x i x.Joints[i] then 4 else 0) == (k : Int)) <;> rfl
  · unfold f24_L4
    simp only [lt_f, cond_false, w64_nat (show k < 9223372036854775807 by omega)]
theorem spec_net {x : Net} (hx : fitNet x) (hs : smNet x) : f24 x = netO x := by
  have hl := hs.1.1
  unfold f24 netO
  cases ((((x.Pieces.length : Int) == (0:Int)) || decide ((x.Pieces.length : Int) > (100:Int))) || decide ((x.Joints.length : Int) > (120:Int))) with
  | true => rfl
  | false =>
    rw [cond_false, cond_false]
    refine loop_find x.Pieces.length (fun i => (i : Int)) _ _ (fun i hi _ => spec_piece hx hs hi) (fun _ => ?_)
    unfold f24_L1
    simp only [lt_f, cond_false]
    congr 1
    rw [loopO_elim]
    have e3 : f24_L3 x (3:Int) = loopO (f24_L4 x ((3 : Nat) : Int)) 0 := rfl
    have e4 : f24_L3 x (4:Int) = loopO (f24_L4 x ((4 : Nat) : Int)) 0 := rfl
    have e5 : f24_L3 x (5:Int) = (loopO (f24_L5 x) 0).map Sum.inr := rfl
    rw [e3, spec_code hx hs 3 (by decide), firstO_step]
    show firstO _ _ (loopO _ (4 : Int)) = _
    rw [loopO_elim, e4, spec_code hx hs 4 (by decide), firstO_step]
    show firstO _ _ (firstO _ _ (loopO _ (5 : Int))) = _
    rw [loopO_elim, e5, spec_ends hs]
    refine firstO_congr (fun i hi => ?_) (fun h3 => ?_)
    · simp only [List.getElem?_eq_getElem hi, Option.any_some]
      cases bad3 x x.Joints[i] <;> cases bad4 x i x.Joints[i] <;> rfl
    · refine firstO_congr (fun i hi => ?_) (fun _ => ?_)
      · have := h3 i hi
        simp only [List.getElem?_eq_getElem hi, Option.any_some] at this ⊢
        revert this
        cases bad3 x x.Joints[i] <;> cases bad4 x i x.Joints[i] <;> simp
      · obtain ⟨r, hr⟩ := firstO_is x.Pieces.length (fun i => bif bad5 x i then some (⟨5, (i : Int)⟩ : Fault) else none) (e := some ⟨0, 0⟩) ⟨_, rfl⟩
        rw [hr]; rfl
def jnamesOf (x : Net) (i : Nat) : List (ByteArray × Bool) := (x.Joints.take i).foldl (fun m c => bif !decide (c.Kind ≤ (2:Int)) then mset c.Name true m else m) []
theorem named_empty : namedB ({ data := #[] } : ByteArray) = false := by decide
theorem impl_joint3 {x : Net} (hs : smNet x) {i : Nat} (hi : i < x.Joints.length) : f26_L2 x (i : Int) = some ((bif (x.Joints[i]?).any (bad3 x) then some (⟨3, (i : Int)⟩ : Fault) else none).elim (.inl ((i + 1 : Nat) : Int)) .inr) := by
  have hl := hs.2.1
  obtain ⟨c, hc⟩ : ∃ c, x.Joints[i]? = some c := ⟨_, List.getElem?_eq_getElem hi⟩
  have hel : c.Ends.length ≤ 1048576 := (hs.2.2 c (List.mem_of_getElem? hc)).1
  have hL : loopO (f26_L3 x (i : Int) c) (0 : Int) = some (bif c.Ends.any (fun e => !okE x e) then .inr ⟨3, (i : Int)⟩ else .inl ((i + 1 : Nat) : Int)) := by
    refine (loop_find c.Ends.length (fun j => (j : Int)) (fun j => bif (c.Ends[j]?).any (fun e => !okE x e) then some (.inr ⟨3, (i : Int)⟩) else none) (some (.inl ((i + 1 : Nat) : Int))) (fun j hj _ => ?_) (fun _ => ?_)).trans ?_
    · unfold f26_L3
      have hb : (((decide (c.Ends[j].Piece < (0:Int)) || decide (c.Ends[j].Piece ≥ (x.Pieces.length : Int))) || decide (c.Ends[j].Side < (0:Int))) || decide (c.Ends[j].Side > (1:Int))) = !okE x c.Ends[j] := by
        unfold okE
        rw [Bool.eq_iff_iff]; simp; omega
      simp only [lt_t hj, cond_true, getI_nat, List.getElem?_eq_getElem hj, Option.bind_some, hb, w64_nat (show j < 9223372036854775807 by omega), Option.any_some]
      cases okE x c.Ends[j] <;> rfl
    · unfold f26_L3
      simp only [lt_f, cond_false, w64_nat (show i < 9223372036854775807 by omega)]
    · rw [firstO_any, range_any_take, List.take_length, cond_some]
  unfold f26_L2
  simp only [lt_t hi, cond_true, getI_nat, hc, Option.bind_some, hL, Option.any_some]
  unfold bad3
  cases (decide (c.Kind < (1:Int)) || decide (c.Kind > (4:Int))) <;> cases ((c.Ends.length : Int) != c.Kind) <;> cases (c.Ends.any fun e => !okE x e) <;> rfl
theorem impl_joint4 {x : Net} (hx : fitNet x) (hs : smNet x) {i : Nat} (hi : i < x.Joints.length) (hb : ∀ j, j < i → (bif (x.Joints[j]?).any (bad4 x j) then some (⟨4, (j : Int)⟩ : Fault) else none) = none) : f26_L4 x (jnamesOf x i, (i : Int)) = some ((bif (x.Joints[i]?).any (bad4 x i) then some (⟨4, (i : Int)⟩ : Fault) else none).elim (.inl (jnamesOf x (i + 1), ((i + 1 : Nat) : Int))) .inr) := by
  have hl := hs.2.1
  obtain ⟨c, hc⟩ : ∃ c, x.Joints[i]? = some c := ⟨_, List.getElem?_eq_getElem hi⟩
  have hf := hx.2.2 c (List.mem_of_getElem? hc)
  have hn : jnamesOf x (i + 1) = bif !decide (c.Kind ≤ (2:Int)) then mset c.Name true (jnamesOf x i) else jnamesOf x i := foldl_take _ _ hc
  have hm : mget c.Name (jnamesOf x i) false = (x.Joints.take i).any fun d => (!decide (d.Kind ≤ (2:Int))) && decide (d.Name = c.Name) := by
    unfold jnamesOf
    rw [mget_keys (fun d : Joint => !decide (d.Kind ≤ (2:Int))) (fun d : Joint => d.Name)]
  have ha : namedB c.Name = true → ((x.Joints.take i).any fun d => (!decide (d.Kind ≤ (2:Int))) && decide (d.Name = c.Name)) = (x.Joints.take i).any fun d => decide (d.Name = c.Name) := by
    intro hn
    rw [← range_any_take, ← range_any_take, Bool.eq_iff_iff, List.any_eq_true, List.any_eq_true]
    constructor
    · rintro ⟨j, hj, h⟩
      refine ⟨j, hj, ?_⟩
      cases hd : x.Joints[j]? with
      | none => rw [hd] at h; cases h
      | some d => rw [hd] at h; simp only [Option.any_some, Bool.and_eq_true] at h ⊢; exact h.2
    · rintro ⟨j, hj, h⟩
      refine ⟨j, hj, ?_⟩
      have hbj := hb j (List.mem_range.1 hj)
      cases hd : x.Joints[j]? with
      | none => rw [hd] at h; cases h
      | some d =>
        rw [hd] at h hbj
        simp only [Option.any_some, Bool.and_eq_true] at h hbj ⊢
        refine ⟨?_, h⟩
        cases hk : decide (d.Kind ≤ (2:Int)) with
        | false => rfl
        | true =>
          exfalso
          unfold bad4 at hbj
          rw [hk, cond_true] at hbj
          simp only [decide_eq_true_eq] at h
          rw [h] at hbj
          cases he : decide (c.Name = ({ data := #[] } : ByteArray)) with
          | false => rw [he] at hbj; simp at hbj
          | true =>
            simp only [decide_eq_true_eq] at he
            rw [he, named_empty] at hn
            cases hn
  unfold f26_L4 f26_k5
  simp only [lt_t hi, cond_true, getI_nat, hc, Option.bind_some, named_eq hf.2.1, hm, Option.any_some, str_eq, w64_nat (show i < 9223372036854775807 by omega), hn]
  unfold bad4
  cases decide (c.Kind ≤ (2:Int)) with
  | true => cases decide (c.Name = ({ data := #[] } : ByteArray)) <;> rfl
  | false =>
    cases hn : namedB c.Name with
    | false => rfl
    | true =>
      rw [ha hn]
      cases ((x.Joints.take i).any fun d => decide (d.Name = c.Name)) <;> rfl
def countsOf (x : Net) : List (End × Int) := (endsOf x).foldl (fun m e => mset e (w64 (mget e m 0 + 1)) m) []
theorem impl_ends {x : Net} (hs : smNet x) : loopO (f26_L6 x) (([] : List (End × Int)), (0:Int)) = firstO x.Pieces.length (fun i => bif bad5 x i then some ⟨5, (i : Int)⟩ else none) (some ⟨0, 0⟩) := by
  have hl := hs.2.1
  have hp := hs.1.1
  refine (loop_fold x.Joints (fun m (c : Joint) => c.Ends.foldl (fun m e => mset e (w64 (mget e m 0 + 1)) m) m) [] (fun m => loopO (f26_L8 x m) (0:Int)) (fun a i c hc => ?_) (fun a => ?_)).trans ?_
  · have hi := get_lt hc
    have hel : c.Ends.length ≤ 1048576 := (hs.2.2 c (List.mem_of_getElem? hc)).1
    unfold f26_L6
    simp only [lt_t hi, cond_true, getI_nat, hc, Option.bind_some]
    refine (loop_fold c.Ends (fun m e => mset e (w64 (mget e m 0 + 1)) m) a (fun a => (some (.inl (a, ((i + 1 : Nat) : Int))) : Option ((List (End × Int) × Int) ⊕ Fault))) (fun b j y hy => ?_) (fun b => ?_))
    · have hj := get_lt hy
      unfold f26_L7
      simp only [lt_t hj, cond_true, getI_nat, hy, Option.bind_some, w64_nat (show j < 9223372036854775807 by omega)]
    · unfold f26_L7
      simp only [lt_f, cond_false, w64_nat (show i < 9223372036854775807 by omega)]
  · unfold f26_L6
    simp only [lt_f, cond_false]
  · have he : x.Joints.foldl (fun m (c : Joint) => c.Ends.foldl (fun m e => mset e (w64 (mget e m 0 + 1)) m) m) [] = countsOf x := by
      unfold countsOf endsOf
      rw [List.foldl_flatMap]
    have hu : ∀ e, mget e (countsOf x) 0 = usesOf x e := fun e => mget_counts _ _
    rw [he]
    refine loop_find x.Pieces.length (fun i => (i : Int)) _ _ (fun i hi _ => ?_) (fun _ => ?_)
    · unfold f26_L8
      simp only [lt_t hi, cond_true, hu, w64_nat (show i < 9223372036854775807 by omega)]
      unfold bad5
      cases ((usesOf x ⟨(i : Int), 0⟩ != 1) || (usesOf x ⟨(i : Int), 1⟩ != 1)) <;> rfl
    · unfold f26_L8
      simp only [lt_f, cond_false]
theorem impl_net {x : Net} (hx : fitNet x) (hs : smNet x) : f26 x = netO x := by
  have hl := hs.1.1
  have hl2 := hs.2.1
  unfold f26 netO
  cases ((((x.Pieces.length : Int) == (0:Int)) || decide ((x.Pieces.length : Int) > (100:Int))) || decide ((x.Joints.length : Int) > (120:Int))) with
  | true => rfl
  | false =>
    rw [cond_false, cond_false]
    refine loop_find x.Pieces.length (fun i => (namesOf x i, (i : Int))) _ _ (fun i hi _ => impl_piece hx hs hi) (fun _ => ?_)
    unfold f26_L1
    simp only [lt_f, cond_false]
    congr 1
    refine loop_find x.Joints.length (fun i => (i : Int)) _ _ (fun i hi _ => impl_joint3 hs hi) (fun _ => ?_)
    unfold f26_L2
    simp only [lt_f, cond_false]
    congr 1
    refine loop_find x.Joints.length (fun i => (jnamesOf x i, (i : Int))) _ _ (fun i hi hb => impl_joint4 hx hs hi hb) (fun _ => ?_)
    unfold f26_L4
    simp only [lt_f, cond_false]
    congr 1
    exact impl_ends hs
theorem netO_code {x : Net} {r : Fault} (h : netO x = some r) : ((r.Code == 0) && ((r.At == 0) && true)) = (r.Code == 0) := by
  have key : r = ⟨0, 0⟩ ∨ (r.Code == 0) = false := by
    unfold netO at h
    cases hc : ((((x.Pieces.length : Int) == (0:Int)) || decide ((x.Pieces.length : Int) > (100:Int))) || decide ((x.Joints.length : Int) > (120:Int))) with
    | true => rw [hc] at h; simp only [cond_true, Option.some.injEq] at h; subst h; exact .inr rfl
    | false =>
      rw [hc, cond_false] at h
      rcases firstO_mem h with ⟨i, _, hi⟩ | ⟨_, h⟩
      · rw [← (bif_some hi).2]; exact .inr rfl
      rcases firstO_mem h with ⟨i, _, hi⟩ | ⟨_, h⟩
      · rw [← (bif_some hi).2]; exact .inr rfl
      rcases firstO_mem h with ⟨i, _, hi⟩ | ⟨_, h⟩
      · rw [← (bif_some hi).2]; exact .inr rfl
      rcases firstO_mem h with ⟨i, _, hi⟩ | ⟨_, h⟩
      · rw [← (bif_some hi).2]; exact .inr rfl
      exact .inl (by simpa using h.symm)
  rcases key with rfl | h
  · rfl
  · rw [h]; rfl
/-- Is a net right? -/
def goodNet (x : Net) : Bool := (netO x).any fun r => r.Code == 0
/-- What a right net is. -/
structure NetFacts (x : Net) : Prop where
  pos : 0 < x.Pieces.length
  le : x.Pieces.length ≤ 100
  jle : x.Joints.length ≤ 120
  p : ∀ i, i < x.Pieces.length → badP x i = false
  j3 : ∀ i, i < x.Joints.length → (x.Joints[i]?).any (bad3 x) = false
  j4 : ∀ i, i < x.Joints.length → (x.Joints[i]?).any (bad4 x i) = false
  e : ∀ i, i < x.Pieces.length → bad5 x i = false
theorem good_facts {x : Net} (h : goodNet x = true) : NetFacts x := by
  obtain ⟨r, hr⟩ := netO_is x
  unfold goodNet at h
  rw [hr] at h
  simp only [Option.any_some, beq_iff_eq] at h
  have h2 := hr
  unfold netO at h2
  cases hc : ((((x.Pieces.length : Int) == (0:Int)) || decide ((x.Pieces.length : Int) > (100:Int))) || decide ((x.Joints.length : Int) > (120:Int))) with
  | true => rw [hc] at h2; simp only [cond_true, Option.some.injEq] at h2; subst h2; cases h
  | false =>
    rw [hc, cond_false] at h2
    rcases firstO_mem h2 with ⟨i, _, hi⟩ | ⟨h3, h2⟩
    · rw [← (bif_some hi).2] at h; cases h
    rcases firstO_mem h2 with ⟨i, _, hi⟩ | ⟨h4, h2⟩
    · rw [← (bif_some hi).2] at h; cases h
    rcases firstO_mem h2 with ⟨i, _, hi⟩ | ⟨h5, h2⟩
    · rw [← (bif_some hi).2] at h; cases h
    rcases firstO_mem h2 with ⟨i, _, hi⟩ | ⟨h6, h2⟩
    · rw [← (bif_some hi).2] at h; cases h
    simp only [Bool.or_eq_false_iff, beq_eq_false_iff_ne, decide_eq_false_iff_not] at hc
    exact ⟨by omega, by omega, by omega, fun i hi => bif_none (h3 i hi), fun i hi => bif_none (h4 i hi), fun i hi => bif_none (h5 i hi), fun i hi => bif_none (h6 i hi)⟩
theorem good_piece {x : Net} (h : goodNet x = true) {i : Nat} {p : Piece} (hp : x.Pieces[i]? = some p) : okP p = true := by
  have := (good_facts h).p i (get_lt hp)
  unfold badP at this
  rw [hp] at this
  simp only [Option.any_some, Bool.or_eq_false_iff, Bool.not_eq_false'] at this
  exact this.1
theorem good_eq {x : Net} (hx : fitNet x) (hs : smNet x) : f116 x = some (goodNet x) := by
  obtain ⟨r, hr⟩ := netO_is x
  unfold f116 goodNet
  rw [impl_net hx hs, hr, Option.bind_some, netO_code hr]; rfl
theorem l11ok_eq {x : Net} (hx : fitNet x) (hs : smNet x) : f131 x = some (goodNet x) := by
  obtain ⟨r, hr⟩ := netO_is x
  unfold f131 goodNet
  rw [spec_net hx hs, hr]; rfl
def okS (n : Net) (s : Signal) : Bool := (((namedB s.Name && (decide (s.Piece ≥ (0:Int)) && decide (s.Piece < (n.Pieces.length : Int)))) && !((s.Way != (1:Int)) && (s.Way != (-1:Int)))) && (decide (s.At ≥ (1:Int)) && (n.Pieces[s.Piece.toNat]?).any fun p => decide (s.At < p.Len)))
def sameS (a b : Signal) : Bool := decide (a.Name = b.Name) || (((a.Piece == b.Piece) && (a.At == b.At)) && (a.Way == b.Way))
def twinS (l : List Signal) (i : Nat) : Bool := (l[i]?).any fun s => (l.take i).any fun q => sameS q s
def sigO (n : Net) (l : List Signal) : Option Fault :=
  bif !goodNet n then some ⟨1, 0⟩ else bif decide ((l.length : Int) > (60:Int)) then some ⟨2, 0⟩ else
  firstO l.length (fun i => bif (l[i]?).any (fun s => !okS n s) then some ⟨3, (i : Int)⟩ else none) <|
  firstO l.length (fun i => bif twinS l i then some ⟨4, (i : Int)⟩ else none) (some ⟨0, 0⟩)
theorem sigO_is (n : Net) (l : List Signal) : ∃ r, sigO n l = some r := by
  unfold sigO
  cases !goodNet n
  · cases decide ((l.length : Int) > (60:Int))
    · exact firstO_is _ _ (firstO_is _ _ ⟨_, rfl⟩)
    · exact ⟨_, rfl⟩
  · exact ⟨_, rfl⟩
theorem nat_of {p : Int} {n : Nat} (h0 : 0 ≤ p) (h1 : p < (n : Int)) : ∃ k : Nat, p = (k : Int) ∧ k < n := ⟨p.toNat, by omega, by omega⟩
/-- A signal, as both read it. -/
theorem sig_cases {n : Net} (hg : goodNet n = true) (hx : fitNet n) (s : Signal) : (decide (s.Piece ≥ (0:Int)) && decide (s.Piece < (n.Pieces.length : Int))) = false ∨ ∃ (k : Nat) (p : Piece), s.Piece = (k : Int) ∧ n.Pieces[k]? = some p ∧ 1 ≤ p.Len ∧ p.Len ≤ 10000000 ∧ (decide (s.Piece ≥ (0:Int)) && decide (s.Piece < (n.Pieces.length : Int))) = true := by
  cases h : (decide (s.Piece ≥ (0:Int)) && decide (s.Piece < (n.Pieces.length : Int))) with
  | false => exact .inl rfl
  | true =>
    have h' := h
    simp only [Bool.and_eq_true, decide_eq_true_eq] at h
    obtain ⟨k, hk, hl⟩ := nat_of h.1 h.2
    have hp := List.getElem?_eq_getElem hl
    have ho := good_piece hg hp
    unfold okP at ho
    simp only [Bool.and_eq_true, decide_eq_true_eq] at ho
    exact .inr ⟨k, _, hk, hp, ho.1.1.1.1.1.2, ho.1.1.1.1.2, rfl⟩
theorem at_lt {a n : Int} (h1 : 1 ≤ n) (h2 : n ≤ 10000000) : decide (a ≤ w64 (n - 1)) = decide (a < n) := le_pred (by omega)
theorem at_gt {a n : Int} (h1 : 1 ≤ n) (h2 : n ≤ 10000000) : decide (a > w64 (n - 1)) = !decide (a < n) := by
  rw [w64_id (by omega), Bool.eq_iff_iff]; simp; omega
theorem spec_sig {n : Net} {l : List Signal} (hg : goodNet n = true) (hx : fitNet n) (hl : fitsL fitSignal l) (hs : l.length ≤ 60) {i : Nat} (hi : i < l.length) : f44_L1 n l (i : Int) = some ((bif (l[i]?).any (fun s => !okS n s) then some (⟨3, (i : Int)⟩ : Fault) else none).elim (.inl ((i + 1 : Nat) : Int)) .inr) := by
  have hn := (good_facts hg).le
  obtain ⟨s, hp⟩ : ∃ s, l[i]? = some s := ⟨_, List.getElem?_eq_getElem hi⟩
  have hf := hl.2 s (List.mem_of_getElem? hp)
  unfold f44_L1
  simp only [lt_t hi, cond_true, getI_nat, hp, Option.bind_some, l11name_eq hf.1, in_eq, cond_some, Option.any_some, le_pred (y := s.Piece) (n := (n.Pieces.length : Int)) (by omega), w64_nat (show i < 9223372036854775807 by omega)]
  unfold okS
  rcases sig_cases hg hx s with h | ⟨k, p, hk, hp, h1, h2, h⟩
  · rw [h]
    cases namedB s.Name <;> rfl
  · rw [h, hk]
    simp only [getI_nat, hp, Option.bind_some, Int.toNat_natCast, Option.any_some, at_lt h1 h2]
    cases namedB s.Name <;> cases ((s.Way != (1:Int)) && (s.Way != (-1:Int))) <;> cases decide (s.At ≥ (1:Int)) <;> cases decide (s.At < p.Len) <;> rfl
theorem impl_sig {n : Net} {l : List Signal} (hg : goodNet n = true) (hx : fitNet n) (hl : fitsL fitSignal l) (hs : l.length ≤ 60) {i : Nat} (hi : i < l.length) : f46_L1 n l (i : Int) = some ((bif (l[i]?).any (fun s => !okS n s) then some (⟨3, (i : Int)⟩ : Fault) else none).elim (.inl ((i + 1 : Nat) : Int)) .inr) := by
  have hn := (good_facts hg).le
  obtain ⟨s, hp⟩ : ∃ s, l[i]? = some s := ⟨_, List.getElem?_eq_getElem hi⟩
  have hf := hl.2 s (List.mem_of_getElem? hp)
  have e1 : decide (s.Piece < (0:Int)) = !decide (s.Piece ≥ (0:Int)) := by rw [Bool.eq_iff_iff]; simp
  have e2 : decide (s.Piece ≥ (n.Pieces.length : Int)) = !decide (s.Piece < (n.Pieces.length : Int)) := by rw [Bool.eq_iff_iff]; simp
  have e3 : decide (s.At < (1:Int)) = !decide (s.At ≥ (1:Int)) := by rw [Bool.eq_iff_iff]; simp
  unfold f46_L1
  simp only [lt_t hi, cond_true, getI_nat, hp, Option.bind_some, named_eq hf.1, cond_some, Option.any_some, e1, e2, e3, w64_nat (show i < 9223372036854775807 by omega)]
  unfold okS
  rcases sig_cases hg hx s with h | ⟨k, p, hk, hp, h1, h2, h⟩
  · revert h
    cases decide (s.Piece ≥ (0:Int)) <;> cases decide (s.Piece < (n.Pieces.length : Int)) <;> cases namedB s.Name <;> intro h <;> first | rfl | cases h
  · have h3 : decide (s.Piece ≥ (0:Int)) = true := (Bool.and_eq_true _ _ ▸ h).1
    have h4 : decide (s.Piece < (n.Pieces.length : Int)) = true := (Bool.and_eq_true _ _ ▸ h).2
    rw [h3, h4, hk]
    simp only [getI_nat, hp, Option.bind_some, Int.toNat_natCast, Option.any_some, at_gt h1 h2]
    cases namedB s.Name <;> cases ((s.Way != (1:Int)) && (s.Way != (-1:Int))) <;> cases decide (s.At ≥ (1:Int)) <;> cases decide (s.At < p.Len) <;> rfl
theorem before_eq {l : List Signal} (hs : l.length ≤ 60) {i : Nat} (hi : i < l.length) : f132 l (i : Int) = some (twinS l i) := by
  have hc := List.getElem?_eq_getElem hi
  unfold f132
  refine (loop_find i (fun j => (j : Int)) (fun j => bif (l[j]?).any (fun q => sameS q l[i]) then some true else none) (some false) (fun j hj _ => ?_) (fun _ => ?_)).trans ?_
  · unfold f132_L1
    have hjl : j < l.length := by omega
    simp only [lt_t hj, cond_true, getI_nat, List.getElem?_eq_getElem hjl, hc, Option.bind_some, str_eq, w64_nat (show j < 9223372036854775807 by omega), Option.any_some]
    show (bif sameS l[j] l[i] then _ else _) = _
    cases sameS l[j] l[i] <;> rfl
  · unfold f132_L1
    simp only [lt_f, cond_false]
  · rw [firstO_any, range_any_take]
    unfold twinS
    rw [hc, Option.any_some]
    cases ((l.take i).any fun q => sameS q l[i]) <;> rfl
theorem spec_twins {l : List Signal} (hs : l.length ≤ 60) : loopO (f44_L2 l) (0 : Int) = firstO l.length (fun i => bif twinS l i then some ⟨4, (i : Int)⟩ else none) (some ⟨0, 0⟩) := by
  refine loop_find l.length (fun i => (i : Int)) _ _ (fun i hi _ => ?_) (fun _ => ?_)
  · unfold f44_L2
    simp only [lt_t hi, cond_true, before_eq hs hi, Option.bind_some, w64_nat (show i < 9223372036854775807 by omega)]
    cases twinS l i <;> rfl
  · unfold f44_L2
    simp only [lt_f, cond_false]
theorem same_comm (a b : Signal) : ((a.Name.toList == b.Name.toList) || (((a.Piece == b.Piece) && (a.At == b.At)) && (a.Way == b.Way))) = sameS b a := by
  unfold sameS
  rw [str_eq, Bool.eq_iff_iff]
  simp only [Bool.or_eq_true, Bool.and_eq_true, decide_eq_true_eq, beq_iff_eq]
  constructor <;> rintro (h | ⟨⟨h1, h2⟩, h3⟩) <;> first | exact .inl h.symm | exact .inr ⟨⟨h1.symm, h2.symm⟩, h3.symm⟩
theorem subB_take {α : Type} (xs : List α) {i : Nat} (h : i ≤ xs.length) : subB xs 0 (i : Int) = some (xs.take i) := by
  unfold subB
  rw [if_pos ⟨by omega, by omega, by omega⟩]
  simp
theorem impl_twins {l : List Signal} (hs : l.length ≤ 60) : loopO (f46_L2 l) (0 : Int) = firstO l.length (fun i => bif twinS l i then some ⟨4, (i : Int)⟩ else none) (some ⟨0, 0⟩) := by
  refine loop_find l.length (fun i => (i : Int)) _ _ (fun i hi _ => ?_) (fun _ => ?_)
  · have hc := List.getElem?_eq_getElem hi
    have hti : (l.take i).length = i := by rw [List.length_take]; omega
    have hL : loopO (f46_L3 (i : Int) l[i] (l.take i)) (0 : Int) = some (bif twinS l i then .inr ⟨4, (i : Int)⟩ else .inl ((i + 1 : Nat) : Int)) := by
      refine (loop_find (l.take i).length (fun j => (j : Int)) (fun j => bif ((l.take i)[j]?).any (fun q => sameS q l[i]) then some (.inr ⟨4, (i : Int)⟩) else none) (some (.inl ((i + 1 : Nat) : Int))) (fun j hj _ => ?_) (fun _ => ?_)).trans ?_
      · unfold f46_L3
        simp only [lt_t hj, cond_true, getI_nat, List.getElem?_eq_getElem hj, Option.bind_some, same_comm, w64_nat (show j < 9223372036854775807 by omega), Option.any_some]
        cases sameS (l.take i)[j] l[i] <;> rfl
      · unfold f46_L3
        simp only [lt_f, cond_false, w64_nat (show i < 9223372036854775807 by omega)]
      · rw [firstO_any, range_any_take, List.take_length, cond_some]
        unfold twinS
        rw [hc, Option.any_some]
    unfold f46_L2
    simp only [lt_t hi, cond_true, getI_nat, hc, Option.bind_some, subB_take l (Nat.le_of_lt hi), hL]
    cases twinS l i <;> rfl
  · unfold f46_L2
    simp only [lt_f, cond_false]
theorem spec_sigs {n : Net} {l : List Signal} (hx : fitNet n) (hs : smNet n) (hl : fitsL fitSignal l) : f44 n l = sigO n l := by
  unfold f44 sigO
  rw [l11ok_eq hx hs, Option.bind_some]
  cases hg : goodNet n with
  | false => rfl
  | true =>
    simp only [Bool.not_true, cond_false]
    cases hb : decide ((l.length : Int) > (60:Int)) with
    | true => rfl
    | false =>
      simp only [decide_eq_false_iff_not] at hb
      have h60 : l.length ≤ 60 := by omega
      rw [cond_false, cond_false]
      refine loop_find l.length (fun i => (i : Int)) _ _ (fun i hi _ => spec_sig hg hx hl h60 hi) (fun _ => ?_)
      unfold f44_L1
      simp only [lt_f, cond_false, spec_twins h60]
theorem impl_sigs {n : Net} {l : List Signal} (hx : fitNet n) (hs : smNet n) (hl : fitsL fitSignal l) : f46 n l = sigO n l := by
  unfold f46 sigO
  rw [good_eq hx hs, Option.bind_some]
  cases hg : goodNet n with
  | false => rfl
  | true =>
    simp only [Bool.not_true, cond_false]
    cases hb : decide ((l.length : Int) > (60:Int)) with
    | true => rfl
    | false =>
      simp only [decide_eq_false_iff_not] at hb
      have h60 : l.length ≤ 60 := by omega
      rw [cond_false, cond_false]
      refine loop_find l.length (fun i => (i : Int)) _ _ (fun i hi _ => impl_sig hg hx hl h60 hi) (fun _ => ?_)
      unfold f46_L1
      simp only [lt_f, cond_false, impl_twins h60]
theorem main8 {n : Net} {l : List Signal} (hx : fitNet n) (hl : fitsL fitSignal l) (hs : smNet n) (_ : smL (fun _ => True) l) : ∃ r, f44 n l = some r ∧ f46 n l = some r := by
  obtain ⟨r, hr⟩ := sigO_is n l
  exact ⟨r, by rw [spec_sigs hx hs hl, hr], by rw [impl_sigs hx hs hl, hr]⟩

theorem law8 (aAN0 : Net) (aASignals1 : List Signal) (haAN0 : fitNet aAN0) (haASignals1 : (fitsL fitSignal) aASignals1) : f8 aAN0 aASignals1 = some true := by
  unfold f8
  obtain ⟨v0, e0, a0, b0⟩ := f23_sz (x := aAN0) (left := 1048576) (by omega) (by omega) haAN0
  rw [e0, Option.bind_some]
  rcases Bool.eq_false_or_eq_true (decide (v0 < (0 : Int))) with hb0 | hb0
  · rw [hb0]; rfl
  rw [hb0, cond_false]; simp only [decide_eq_false_iff_not] at hb0
  have saAN0 := b0.resolve_left hb0
  obtain ⟨v1, e1, a1, b1⟩ := f43_sz (x := aASignals1) (left := v0) (by omega) (by omega) haASignals1
  rw [e1, Option.bind_some]
  rcases Bool.eq_false_or_eq_true (decide (v1 < (0 : Int))) with hb1 | hb1
  · rw [hb1]; rfl
  rw [hb1, cond_false]; simp only [decide_eq_false_iff_not] at hb1
  have saASignals1 := b1.resolve_left hb1
  obtain ⟨r, m1, m2⟩ := main8 haAN0 haASignals1 saAN0 saASignals1
  simp only [f25_to (x := aAN0) saAN0, f45_to (x := aASignals1) saASignals1, f27_eq (x := r) trivial, f28_eq (x := aAN0) saAN0, f47_eq (x := aASignals1) saASignals1, Option.bind_some, m1, m2, bne_self_eq_false, beq_self_eq_true, Bool.not_true, cond_false]

end
end Go.Proofs.Ytgpbnbmddffhkaa.K
