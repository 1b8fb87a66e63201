/-
  The plain part of the law FnExactTable: on typed values it returns true at every input. No conditions.
-/
import Derived.Test.YtkfekjcahepfnaaDTb
set_option linter.unusedVariables false
set_option linter.unusedSimpArgs false
set_option maxRecDepth 100000
namespace Go.Proofs.Ytkfekjcahepfnaa.K
noncomputable section
open Go.ChangeShapes Go.WideShapes Go.ChangeAt Go.RowKit
abbrev fitStep (x : Step) : Prop := fitsI x.Piece ∧ fitsI x.Way
abbrev fitLie (x : Lie) : Prop := fitsI x.Joint ∧ fitsI x.Lie
abbrev fitPart (x : Part) : Prop := fitsI x.Piece ∧ fitsI x.From ∧ fitsI x.To
abbrev fitFlank (x : Flank) : Prop := fitsI x.At ∧ fitsI x.Kind ∧ fitsI x.Of ∧ fitsI x.Lie
abbrev fitRoute (x : Route) : Prop := fitsI x.From ∧ fitsI x.To ∧ (fitsL fitStep) x.Steps ∧ (fitsL fitLie) x.Lies ∧ (fitsL fitsI) x.Crosses ∧ (fitsL fitPart) x.Parts ∧ (fitsL fitPart) x.Over ∧ (fitsL fitFlank) x.Flanks
abbrev smRoute (x : Route) : Prop := (smL (fun _ => True)) x.Steps ∧ (smL (fun _ => True)) x.Lies ∧ (smL (fun _ => True)) x.Crosses ∧ (smL (fun _ => True)) x.Parts ∧ (smL (fun _ => True)) x.Over ∧ (smL (fun _ => True)) x.Flanks
theorem rd3 : Reads Try.prog 3 Int fitsI := reads_int Try.underlying3
theorem rd289 : Reads Try.prog 289 Step fitStep := by
  intro K enc W sp fuel cs d ps h
  obtain ⟨fu, hl, hf⟩ := trod_struct Try.underlying289 h
  have hl : cs.length = 2 := hl
  obtain ⟨_, _, h0⟩ := hf _ (List.Mem.head _)
  obtain ⟨x0, r0, g0⟩ := rd3 _ _ _ _ _ _ _ h0
  obtain ⟨_, _, h1⟩ := hf _ (List.Mem.tail _ (List.Mem.head _))
  obtain ⟨x1, r1, g1⟩ := rd3 _ _ _ _ _ _ _ h1
  exact ⟨⟨x0, x1⟩, fld (off := 0) (sz := 1) r0 (fldLast (sz := 1) hl r1), g0, g1⟩
theorem rd55 : Reads Try.prog 55 (List Step) (fitsL fitStep) := reads_slice Try.underlying55 rfl rd289
theorem rd291 : Reads Try.prog 291 Lie fitLie := by
  intro K enc W sp fuel cs d ps h
  obtain ⟨fu, hl, hf⟩ := trod_struct Try.underlying291 h
  have hl : cs.length = 2 := hl
  obtain ⟨_, _, h0⟩ := hf _ (List.Mem.head _)
  obtain ⟨x0, r0, g0⟩ := rd3 _ _ _ _ _ _ _ h0
  obtain ⟨_, _, h1⟩ := hf _ (List.Mem.tail _ (List.Mem.head _))
  obtain ⟨x1, r1, g1⟩ := rd3 _ _ _ _ _ _ _ h1
  exact ⟨⟨x0, x1⟩, fld (off := 0) (sz := 1) r0 (fldLast (sz := 1) hl r1), g0, g1⟩
theorem rd56 : Reads Try.prog 56 (List Lie) (fitsL fitLie) := reads_slice Try.underlying56 rfl rd291
theorem rd26 : Reads Try.prog 26 (List Int) (fitsL fitsI) := reads_slice Try.underlying26 rfl rd3
theorem rd293 : Reads Try.prog 293 Part fitPart := by
  intro K enc W sp fuel cs d ps h
  obtain ⟨fu, hl, hf⟩ := trod_struct Try.underlying293 h
  have hl : cs.length = 3 := hl
  obtain ⟨_, _, h0⟩ := hf _ (List.Mem.head _)
  obtain ⟨x0, r0, g0⟩ := rd3 _ _ _ _ _ _ _ h0
  obtain ⟨_, _, h1⟩ := hf _ (List.Mem.tail _ (List.Mem.head _))
  obtain ⟨x1, r1, g1⟩ := rd3 _ _ _ _ _ _ _ h1
  obtain ⟨_, _, h2⟩ := hf _ (List.Mem.tail _ (List.Mem.tail _ (List.Mem.head _)))
  obtain ⟨x2, r2, g2⟩ := rd3 _ _ _ _ _ _ _ h2
  exact ⟨⟨x0, x1, x2⟩, fld (off := 0) (sz := 1) r0 (fld (off := 1) (sz := 1) r1 (fldLast (sz := 1) hl r2)), g0, g1, g2⟩
theorem rd57 : Reads Try.prog 57 (List Part) (fitsL fitPart) := reads_slice Try.underlying57 rfl rd293
theorem rd295 : Reads Try.prog 295 Flank fitFlank := by
  intro K enc W sp fuel cs d ps h
  obtain ⟨fu, hl, hf⟩ := trod_struct Try.underlying295 h
  have hl : cs.length = 4 := hl
  obtain ⟨_, _, h0⟩ := hf _ (List.Mem.head _)
  obtain ⟨x0, r0, g0⟩ := rd3 _ _ _ _ _ _ _ h0
  obtain ⟨_, _, h1⟩ := hf _ (List.Mem.tail _ (List.Mem.head _))
  obtain ⟨x1, r1, g1⟩ := rd3 _ _ _ _ _ _ _ h1
  obtain ⟨_, _, h2⟩ := hf _ (List.Mem.tail _ (List.Mem.tail _ (List.Mem.head _)))
  obtain ⟨x2, r2, g2⟩ := rd3 _ _ _ _ _ _ _ h2
  obtain ⟨_, _, h3⟩ := hf _ (List.Mem.tail _ (List.Mem.tail _ (List.Mem.tail _ (List.Mem.head _))))
  obtain ⟨x3, r3, g3⟩ := rd3 _ _ _ _ _ _ _ h3
  exact ⟨⟨x0, x1, x2, x3⟩, fld (off := 0) (sz := 1) r0 (fld (off := 1) (sz := 1) r1 (fld (off := 2) (sz := 1) r2 (fldLast (sz := 1) hl r3))), g0, g1, g2, g3⟩
theorem rd58 : Reads Try.prog 58 (List Flank) (fitsL fitFlank) := reads_slice Try.underlying58 rfl rd295
theorem rd60 : Reads Try.prog 60 Route fitRoute := by
  intro K enc W sp fuel cs d ps h
  obtain ⟨fu, hl, hf⟩ := trod_struct Try.underlying60 h
  have hl : cs.length = 8 := hl
  obtain ⟨_, _, h0⟩ := hf _ (List.Mem.head _)
  obtain ⟨x0, r0, g0⟩ := rd3 _ _ _ _ _ _ _ h0
  obtain ⟨_, _, h1⟩ := hf _ (List.Mem.tail _ (List.Mem.head _))
  obtain ⟨x1, r1, g1⟩ := rd3 _ _ _ _ _ _ _ h1
  obtain ⟨_, _, h2⟩ := hf _ (List.Mem.tail _ (List.Mem.tail _ (List.Mem.head _)))
  obtain ⟨x2, r2, g2⟩ := rd55 _ _ _ _ _ _ _ h2
  obtain ⟨_, _, h3⟩ := hf _ (List.Mem.tail _ (List.Mem.tail _ (List.Mem.tail _ (List.Mem.head _))))
  obtain ⟨x3, r3, g3⟩ := rd56 _ _ _ _ _ _ _ h3
  obtain ⟨_, _, h4⟩ := hf _ (List.Mem.tail _ (List.Mem.tail _ (List.Mem.tail _ (List.Mem.tail _ (List.Mem.head _)))))
  obtain ⟨x4, r4, g4⟩ := rd26 _ _ _ _ _ _ _ h4
  obtain ⟨_, _, h5⟩ := hf _ (List.Mem.tail _ (List.Mem.tail _ (List.Mem.tail _ (List.Mem.tail _ (List.Mem.tail _ (List.Mem.head _))))))
  obtain ⟨x5, r5, g5⟩ := rd57 _ _ _ _ _ _ _ h5
  obtain ⟨_, _, h6⟩ := hf _ (List.Mem.tail _ (List.Mem.tail _ (List.Mem.tail _ (List.Mem.tail _ (List.Mem.tail _ (List.Mem.tail _ (List.Mem.head _)))))))
  obtain ⟨x6, r6, g6⟩ := rd57 _ _ _ _ _ _ _ h6
  obtain ⟨_, _, h7⟩ := hf _ (List.Mem.tail _ (List.Mem.tail _ (List.Mem.tail _ (List.Mem.tail _ (List.Mem.tail _ (List.Mem.tail _ (List.Mem.tail _ (List.Mem.head _))))))))
  obtain ⟨x7, r7, g7⟩ := rd58 _ _ _ _ _ _ _ h7
  exact ⟨⟨x0, x1, x2, x3, x4, x5, x6, x7⟩, fld (off := 0) (sz := 1) r0 (fld (off := 1) (sz := 1) r1 (fld (off := 2) (sz := 1) r2 (fld (off := 3) (sz := 1) r3 (fld (off := 4) (sz := 1) r4 (fld (off := 5) (sz := 1) r5 (fld (off := 6) (sz := 1) r6 (fldLast (sz := 1) hl r7))))))), g0, g1, g2, g3, g4, g5, g6, g7⟩
theorem rd92 : Reads Try.prog 92 (List Route) (fitsL fitRoute) := reads_slice Try.underlying92 rfl rd60
theorem f150_sz {x : List Step} {left : Int} (h0 : 0 ≤ left) (h1 : left ≤ 1048576) (hx : (fitsL fitStep) x) : ∃ v, f150 x left = some v ∧ v ≤ left ∧ (v < 0 ∨ (smL (fun _ => True)) x) := by
  unfold f150
  obtain ⟨v, e1, e2, e3⟩ := sz_flat (xs := x) h0 h1 hx.1
  exact ⟨v, e1, e2, e3.imp id fun h => ⟨h.1, fun _ _ => trivial⟩⟩
theorem f151_sz {x : List Lie} {left : Int} (h0 : 0 ≤ left) (h1 : left ≤ 1048576) (hx : (fitsL fitLie) x) : ∃ v, f151 x left = some v ∧ v ≤ left ∧ (v < 0 ∨ (smL (fun _ => True)) x) := by
  unfold f151
  obtain ⟨v, e1, e2, e3⟩ := sz_flat (xs := x) h0 h1 hx.1
  exact ⟨v, e1, e2, e3.imp id fun h => ⟨h.1, fun _ _ => trivial⟩⟩
theorem f138_sz {x : List Int} {left : Int} (h0 : 0 ≤ left) (h1 : left ≤ 1048576) (hx : (fitsL fitsI) x) : ∃ v, f138 x left = some v ∧ v ≤ left ∧ (v < 0 ∨ (smL (fun _ => True)) x) := by
  unfold f138
  obtain ⟨v, e1, e2, e3⟩ := sz_flat (xs := x) h0 h1 hx.1
  exact ⟨v, e1, e2, e3.imp id fun h => ⟨h.1, fun _ _ => trivial⟩⟩
theorem f152_sz {x : List Part} {left : Int} (h0 : 0 ≤ left) (h1 : left ≤ 1048576) (hx : (fitsL fitPart) x) : ∃ v, f152 x left = some v ∧ v ≤ left ∧ (v < 0 ∨ (smL (fun _ => True)) x) := by
  unfold f152
  obtain ⟨v, e1, e2, e3⟩ := sz_flat (xs := x) h0 h1 hx.1
  exact ⟨v, e1, e2, e3.imp id fun h => ⟨h.1, fun _ _ => trivial⟩⟩
theorem f153_sz {x : List Flank} {left : Int} (h0 : 0 ≤ left) (h1 : left ≤ 1048576) (hx : (fitsL fitFlank) x) : ∃ v, f153 x left = some v ∧ v ≤ left ∧ (v < 0 ∨ (smL (fun _ => True)) x) := by
  unfold f153
  obtain ⟨v, e1, e2, e3⟩ := sz_flat (xs := x) h0 h1 hx.1
  exact ⟨v, e1, e2, e3.imp id fun h => ⟨h.1, fun _ _ => trivial⟩⟩
theorem f46_sz {x : Route} {left : Int} (h0 : 0 ≤ left) (h1 : left ≤ 1048576) (hx : fitRoute x) : ∃ v, f46 x left = some v ∧ v ≤ left ∧ (v < 0 ∨ smRoute x) := by
  unfold f46
  obtain ⟨v0, e0, a0, b0⟩ := f150_sz (x := x.Steps) (left := left) (by omega) (by omega) hx.2.2.1
  rw [e0, Option.bind_some]
  rcases Bool.eq_false_or_eq_true (decide (v0 < (0 : Int))) with hb0 | hb0
  · rw [hb0]; exact ⟨_, rfl, by omega, .inl (by decide)⟩
  rw [hb0, cond_false]; simp only [decide_eq_false_iff_not] at hb0
  obtain ⟨v1, e1, a1, b1⟩ := f151_sz (x := x.Lies) (left := v0) (by omega) (by omega) hx.2.2.2.1
  rw [e1, Option.bind_some]
  rcases Bool.eq_false_or_eq_true (decide (v1 < (0 : Int))) with hb1 | hb1
  · rw [hb1]; exact ⟨_, rfl, by omega, .inl (by decide)⟩
  rw [hb1, cond_false]; simp only [decide_eq_false_iff_not] at hb1
  obtain ⟨v2, e2, a2, b2⟩ := f138_sz (x := x.Crosses) (left := v1) (by omega) (by omega) hx.2.2.2.2.1
  rw [e2, Option.bind_some]
  rcases Bool.eq_false_or_eq_true (decide (v2 < (0 : Int))) with hb2 | hb2
  · rw [hb2]; exact ⟨_, rfl, by omega, .inl (by decide)⟩
  rw [hb2, cond_false]; simp only [decide_eq_false_iff_not] at hb2
  obtain ⟨v3, e3, a3, b3⟩ := f152_sz (x := x.Parts) (left := v2) (by omega) (by omega) hx.2.2.2.2.2.1
  rw [e3, Option.bind_some]
  rcases Bool.eq_false_or_eq_true (decide (v3 < (0 : Int))) with hb3 | hb3
  · rw [hb3]; exact ⟨_, rfl, by omega, .inl (by decide)⟩
  rw [hb3, cond_false]; simp only [decide_eq_false_iff_not] at hb3
  obtain ⟨v4, e4, a4, b4⟩ := f152_sz (x := x.Over) (left := v3) (by omega) (by omega) hx.2.2.2.2.2.2.1
  rw [e4, Option.bind_some]
  rcases Bool.eq_false_or_eq_true (decide (v4 < (0 : Int))) with hb4 | hb4
  · rw [hb4]; exact ⟨_, rfl, by omega, .inl (by decide)⟩
  rw [hb4, cond_false]; simp only [decide_eq_false_iff_not] at hb4
  obtain ⟨v5, e5, a5, b5⟩ := f153_sz (x := x.Flanks) (left := v4) (by omega) (by omega) hx.2.2.2.2.2.2.2
  rw [e5, Option.bind_some]
  rcases Bool.eq_false_or_eq_true (decide (v5 < (0 : Int))) with hb5 | hb5
  · rw [hb5]; exact ⟨_, rfl, by omega, .inl (by decide)⟩
  rw [hb5, cond_false]; simp only [decide_eq_false_iff_not] at hb5
  exact ⟨_, rfl, by omega, .inr ⟨b0.resolve_left hb0, b1.resolve_left hb1, b2.resolve_left hb2, b3.resolve_left hb3, b4.resolve_left hb4, b5.resolve_left hb5⟩⟩
theorem f60_sz {x : List Route} {left : Int} (h0 : 0 ≤ left) (h1 : left ≤ 1048576) (hx : (fitsL fitRoute) x) : ∃ v, f60 x left = some v ∧ v ≤ left ∧ (v < 0 ∨ (smL smRoute) x) := by
  unfold f60
  refine sz_deep (g := f46) (fit := fitRoute) (sm := smRoute) (fun x l a b c => f46_sz b c a) (fun l i x hi => ?_) (fun l => ?_) h0 h1 hx
  · unfold f60_L1
    simp only [lt_t (get_lt hi), cond_true, getI_nat, hi, Option.bind_some, Option.map_some]
  · unfold f60_L1
    simp only [lt_f, cond_false, Option.map_some]
theorem f256_to {x : Step} (hx : (fun _ => True) x) : f256 x = some x := by
  unfold f256
  rfl
theorem f156_to {x : List Step} (hx : (smL (fun _ => True)) x) : f156 x = some x := by
  have hl := hx.1
  unfold f156
  rw [makeB_ok (by omega), Option.bind_some]
  have := fill x (fun y => y) (⟨0, 0⟩ : Step) (F := f156_L1 x) (fun ys i y hi hy => ?_) (fun ys => ?_)
  · rw [List.map_id'] at this; exact this
  · have hlt := get_lt hi
    unfold f156_L1
    have hg := f256_to (x := y) (hx.2 _ (List.mem_of_getElem? hi))
    simp only [lt_t (get_lt hi), cond_true, getI_nat, hi, Option.bind_some, hg]
    rw [List.getElem?_eq_getElem (by omega), Option.bind_some, w64_nat (by omega)]
    rfl
  · unfold f156_L1
    simp only [lt_f, cond_false, Option.map_some]
theorem f257_to {x : Lie} (hx : (fun _ => True) x) : f257 x = some x := by
  unfold f257
  rfl
theorem f157_to {x : List Lie} (hx : (smL (fun _ => True)) x) : f157 x = some x := by
  have hl := hx.1
  unfold f157
  rw [makeB_ok (by omega), Option.bind_some]
  have := fill x (fun y => y) (⟨0, 0⟩ : Lie) (F := f157_L1 x) (fun ys i y hi hy => ?_) (fun ys => ?_)
  · rw [List.map_id'] at this; exact this
  · have hlt := get_lt hi
    unfold f157_L1
    have hg := f257_to (x := y) (hx.2 _ (List.mem_of_getElem? hi))
    simp only [lt_t (get_lt hi), cond_true, getI_nat, hi, Option.bind_some, hg]
    rw [List.getElem?_eq_getElem (by omega), Option.bind_some, w64_nat (by omega)]
    rfl
  · unfold f157_L1
    simp only [lt_f, cond_false, Option.map_some]
theorem f97_to {x : List Int} (hx : (smL (fun _ => True)) x) : f97 x = some x := by
  have hl := hx.1
  unfold f97
  rw [makeB_ok (by omega), Option.bind_some]
  have := fill x (fun y => y) (0 : Int) (F := f97_L1 x) (fun ys i y hi hy => ?_) (fun ys => ?_)
  · rw [List.map_id'] at this; exact this
  · have hlt := get_lt hi
    unfold f97_L1
    simp only [lt_t (get_lt hi), cond_true, getI_nat, hi, Option.bind_some]
    rw [List.getElem?_eq_getElem (by omega), Option.bind_some, w64_nat (by omega)]
    rfl
  · unfold f97_L1
    simp only [lt_f, cond_false, Option.map_some]
theorem f258_to {x : Part} (hx : (fun _ => True) x) : f258 x = some x := by
  unfold f258
  rfl
theorem f158_to {x : List Part} (hx : (smL (fun _ => True)) x) : f158 x = some x := by
  have hl := hx.1
  unfold f158
  rw [makeB_ok (by omega), Option.bind_some]
  have := fill x (fun y => y) (⟨0, 0, 0⟩ : Part) (F := f158_L1 x) (fun ys i y hi hy => ?_) (fun ys => ?_)
  · rw [List.map_id'] at this; exact this
  · have hlt := get_lt hi
    unfold f158_L1
    have hg := f258_to (x := y) (hx.2 _ (List.mem_of_getElem? hi))
    simp only [lt_t (get_lt hi), cond_true, getI_nat, hi, Option.bind_some, hg]
    rw [List.getElem?_eq_getElem (by omega), Option.bind_some, w64_nat (by omega)]
    rfl
  · unfold f158_L1
    simp only [lt_f, cond_false, Option.map_some]
theorem f259_to {x : Flank} (hx : (fun _ => True) x) : f259 x = some x := by
  unfold f259
  rfl
theorem f159_to {x : List Flank} (hx : (smL (fun _ => True)) x) : f159 x = some x := by
  have hl := hx.1
  unfold f159
  rw [makeB_ok (by omega), Option.bind_some]
  have := fill x (fun y => y) (⟨0, 0, 0, 0⟩ : Flank) (F := f159_L1 x) (fun ys i y hi hy => ?_) (fun ys => ?_)
  · rw [List.map_id'] at this; exact this
  · have hlt := get_lt hi
    unfold f159_L1
    have hg := f259_to (x := y) (hx.2 _ (List.mem_of_getElem? hi))
    simp only [lt_t (get_lt hi), cond_true, getI_nat, hi, Option.bind_some, hg]
    rw [List.getElem?_eq_getElem (by omega), Option.bind_some, w64_nat (by omega)]
    rfl
  · unfold f159_L1
    simp only [lt_f, cond_false, Option.map_some]
theorem f48_to {x : Route} (hx : smRoute x) : f48 x = some x := by
  unfold f48
  rw [f156_to (x := x.Steps) hx.1, f157_to (x := x.Lies) hx.2.1, f97_to (x := x.Crosses) hx.2.2.1, f158_to (x := x.Parts) hx.2.2.2.1, f158_to (x := x.Over) hx.2.2.2.2.1, f159_to (x := x.Flanks) hx.2.2.2.2.2]
  rfl
theorem f62_to {x : List Route} (hx : (smL smRoute) x) : f62 x = some x := by
  have hl := hx.1
  unfold f62
  rw [makeB_ok (by omega), Option.bind_some]
  have := fill x (fun y => y) (⟨0, 0, [], [], [], [], [], []⟩ : Route) (F := f62_L1 x) (fun ys i y hi hy => ?_) (fun ys => ?_)
  · rw [List.map_id'] at this; exact this
  · have hlt := get_lt hi
    unfold f62_L1
    have hg := f48_to (x := y) (hx.2 _ (List.mem_of_getElem? hi))
    simp only [lt_t (get_lt hi), cond_true, getI_nat, hi, Option.bind_some, hg]
    rw [List.getElem?_eq_getElem (by omega), Option.bind_some, w64_nat (by omega)]
    rfl
  · unfold f62_L1
    simp only [lt_f, cond_false, Option.map_some]
theorem f28_eq {x : List Int} (hx : (smL (fun _ => True)) x) : f28 x x = some true := by
  unfold f28
  simp only [bne_self_eq_false, cond_false]
  refine eq_all (F := f28_L1 x x) hx.1 (fun i y hi => ?_) ?_
  · unfold f28_L1
    simp only [lt_t (get_lt hi), cond_true, getI_nat, hi, Option.bind_some, bne_self_eq_false, beq_self_eq_true, Bool.not_true, cond_false]
  · unfold f28_L1
    simp only [lt_f, cond_false, Option.map_some]
theorem f64_eq {x : List (List Int)} (hx : (smL (smL (fun _ => True))) x) : f64 x x = some true := by
  unfold f64
  simp only [bne_self_eq_false, cond_false]
  refine eq_all (F := f64_L1 x x) hx.1 (fun i y hi => ?_) ?_
  · unfold f64_L1
    have hg := f28_eq (x := y) (hx.2 _ (List.mem_of_getElem? hi))
    simp only [lt_t (get_lt hi), cond_true, getI_nat, hi, Option.bind_some, hg, Bool.not_true, cond_false]
  · unfold f64_L1
    simp only [lt_f, cond_false, Option.map_some]
theorem f263_eq {x : Step} (hx : (fun _ => True) x) : f263 x x = some true := by
  unfold f263
  simp only [bne_self_eq_false, beq_self_eq_true, Bool.not_true, cond_false]
theorem f163_eq {x : List Step} (hx : (smL (fun _ => True)) x) : f163 x x = some true := by
  unfold f163
  simp only [bne_self_eq_false, cond_false]
  refine eq_all (F := f163_L1 x x) hx.1 (fun i y hi => ?_) ?_
  · unfold f163_L1
    have hg := f263_eq (x := y) (hx.2 _ (List.mem_of_getElem? hi))
    simp only [lt_t (get_lt hi), cond_true, getI_nat, hi, Option.bind_some, hg, Bool.not_true, cond_false]
  · unfold f163_L1
    simp only [lt_f, cond_false, Option.map_some]
theorem f264_eq {x : Lie} (hx : (fun _ => True) x) : f264 x x = some true := by
  unfold f264
  simp only [bne_self_eq_false, beq_self_eq_true, Bool.not_true, cond_false]
theorem f164_eq {x : List Lie} (hx : (smL (fun _ => True)) x) : f164 x x = some true := by
  unfold f164
  simp only [bne_self_eq_false, cond_false]
  refine eq_all (F := f164_L1 x x) hx.1 (fun i y hi => ?_) ?_
  · unfold f164_L1
    have hg := f264_eq (x := y) (hx.2 _ (List.mem_of_getElem? hi))
    simp only [lt_t (get_lt hi), cond_true, getI_nat, hi, Option.bind_some, hg, Bool.not_true, cond_false]
  · unfold f164_L1
    simp only [lt_f, cond_false, Option.map_some]
theorem f233_eq {x : Part} (hx : (fun _ => True) x) : f233 x x = some true := by
  unfold f233
  simp only [bne_self_eq_false, beq_self_eq_true, Bool.not_true, cond_false]
theorem f112_eq {x : List Part} (hx : (smL (fun _ => True)) x) : f112 x x = some true := by
  unfold f112
  simp only [bne_self_eq_false, cond_false]
  refine eq_all (F := f112_L1 x x) hx.1 (fun i y hi => ?_) ?_
  · unfold f112_L1
    have hg := f233_eq (x := y) (hx.2 _ (List.mem_of_getElem? hi))
    simp only [lt_t (get_lt hi), cond_true, getI_nat, hi, Option.bind_some, hg, Bool.not_true, cond_false]
  · unfold f112_L1
    simp only [lt_f, cond_false, Option.map_some]
theorem f265_eq {x : Flank} (hx : (fun _ => True) x) : f265 x x = some true := by
  unfold f265
  simp only [bne_self_eq_false, beq_self_eq_true, Bool.not_true, cond_false]
theorem f165_eq {x : List Flank} (hx : (smL (fun _ => True)) x) : f165 x x = some true := by
  unfold f165
  simp only [bne_self_eq_false, cond_false]
  refine eq_all (F := f165_L1 x x) hx.1 (fun i y hi => ?_) ?_
  · unfold f165_L1
    have hg := f265_eq (x := y) (hx.2 _ (List.mem_of_getElem? hi))
    simp only [lt_t (get_lt hi), cond_true, getI_nat, hi, Option.bind_some, hg, Bool.not_true, cond_false]
  · unfold f165_L1
    simp only [lt_f, cond_false, Option.map_some]
theorem f50_eq {x : Route} (hx : smRoute x) : f50 x x = some true := by
  unfold f50
  simp only [bne_self_eq_false, beq_self_eq_true, Bool.not_true, cond_false, f163_eq (x := x.Steps) hx.1, f164_eq (x := x.Lies) hx.2.1, f28_eq (x := x.Crosses) hx.2.2.1, f112_eq (x := x.Parts) hx.2.2.2.1, f112_eq (x := x.Over) hx.2.2.2.2.1, f165_eq (x := x.Flanks) hx.2.2.2.2.2, Option.bind_some]
theorem f65_eq {x : List Route} (hx : (smL smRoute) x) : f65 x x = some true := by
  unfold f65
  simp only [bne_self_eq_false, cond_false]
  refine eq_all (F := f65_L1 x x) hx.1 (fun i y hi => ?_) ?_
  · unfold f65_L1
    have hg := f50_eq (x := y) (hx.2 _ (List.mem_of_getElem? hi))
    simp only [lt_t (get_lt hi), cond_true, getI_nat, hi, Option.bind_some, hg, Bool.not_true, cond_false]
  · unfold f65_L1
    simp only [lt_f, cond_false, Option.map_some]
theorem str_eq (a b : ByteArray) : (a.toList == b.toList) = decide (a = b) := by
  rw [Bool.eq_iff_iff, decide_eq_true_eq, ByteArray.toList_eq, ByteArray.toList_eq, beq_iff_eq]
  exact ⟨fun h => by cases a; cases b; simp only [Array.toList_inj] at h; rw [h], fun h => by rw [h]⟩
/-- The first place, if any, at which a search ends. -/
def firstO {ρ : Type} (n : Nat) (b : Nat → Option ρ) (e : Option ρ) : Option ρ := match (List.range n).findSome? b with | some r => some r | none => e
theorem firstO_none {ρ : Type} {n : Nat} {b : Nat → Option ρ} {e : Option ρ} (h : ∀ i, i < n → b i = none) : firstO n b e = e := by
  unfold firstO
  rw [List.findSome?_eq_none_iff.2 (fun x hx => h x (List.mem_range.1 hx))]
theorem firstO_some {ρ : Type} {n : Nat} {b : Nat → Option ρ} {e : Option ρ} {i : Nat} {r : ρ} (hi : i < n) (h : ∀ j, j < i → b j = none) (hr : b i = some r) : firstO n b e = some r := by
  unfold firstO
  have e1 : n = i + ((n - i - 1) + 1) := by omega
  have h0 : (List.range i).findSome? b = none := List.findSome?_eq_none_iff.2 fun x hx => h x (List.mem_range.1 hx)
  rw [e1, List.range_add, List.findSome?_append, h0, List.range_succ_eq_map]
  simp [hr]
/-- A search is: no place ends it, or a first one does. -/
theorem first_cases {ρ : Type} (n : Nat) (b : Nat → Option ρ) : (∀ i, i < n → b i = none) ∨ ∃ i r, i < n ∧ (∀ j, j < i → b j = none) ∧ b i = some r := by
  induction n with
  | zero => exact .inl (fun i hi => by omega)
  | succ n ih =>
    rcases ih with h | ⟨i, r, h1, h2, h3⟩
    · cases hb : b n with
      | none =>
        refine .inl (fun i hi => ?_)
        rcases Nat.lt_or_ge i n with hl | hl
        · exact h i hl
        · have : i = n := by omega
          subst this; exact hb
      | some r => exact .inr ⟨n, r, by omega, h, hb⟩
    · exact .inr ⟨i, r, by omega, h2, h3⟩
/-- A loop that searches. -/
theorem loop_find {σ ρ : Type} {F : σ → Option (σ ⊕ ρ)} (n : Nat) (st : Nat → σ) (b : Nat → Option ρ) (e : Option ρ) (h : ∀ i, i < n → (∀ j, j < i → b j = none) → F (st i) = some ((b i).elim (.inl (st (i + 1))) .inr)) (hend : (∀ j, j < n → b j = none) → F (st n) = e.map .inr) : loopO F (st 0) = firstO n b e := by
  have key : ∀ k i, i + k = n → (∀ j, j < i → b j = none) → loopO F (st i) = firstO n b e := by
    intro k
    induction k with
    | zero =>
      intro i hi hb
      have : i = n := by omega
      subst this
      rw [loopO_eq, hend hb, firstO_none hb]
      cases e <;> rfl
    | succ k ih =>
      intro i hi hb
      rw [loopO_eq, h i (by omega) hb]
      cases hr : b i with
      | some r => rw [firstO_some (by omega) hb hr]; rfl
      | none =>
        simp only [Option.bind_some, Option.elim]
        refine ih (i + 1) (by omega) (fun j hj => ?_)
        rcases Nat.lt_or_ge j i with hl | hl
        · exact hb j hl
        · have : j = i := by omega
          subst this; exact hr
  exact key n 0 (by omega) (fun j hj => by omega)
/-- A loop that gathers. -/
theorem loop_fold {α β ρ : Type} {F : β × Int → Option ((β × Int) ⊕ ρ)} (xs : List α) (g : β → α → β) (a0 : β) (e : β → Option ρ) (h : ∀ (a : β) (i : Nat) (x : α), xs[i]? = some x → F (a, (i : Int)) = some (.inl (g a x, ((i + 1 : Nat) : Int)))) (hend : ∀ a, F (a, (xs.length : Int)) = (e a).map .inr) : loopO F (a0, (0 : Int)) = e (xs.foldl g a0) := by
  have key : ∀ k i (a : β), i + k = xs.length → loopO F (a, (i : Int)) = e ((xs.drop i).foldl g a) := by
    intro k
    induction k with
    | zero =>
      intro i a hi
      have : i = xs.length := by omega
      subst this
      rw [loopO_eq, hend, List.drop_length, List.foldl_nil]
      cases e a <;> rfl
    | succ k ih =>
      intro i a hi
      have hlt : i < xs.length := by omega
      rw [loopO_eq, h a i _ (List.getElem?_eq_getElem hlt), List.drop_eq_getElem_cons hlt, List.foldl_cons]
      exact ih (i + 1) _ (by omega)
  have := key xs.length 0 a0 (by omega)
  simpa using this
section
variable {κ ν : Type} [DecidableEq κ]
theorem mfind_none {k : κ} : ∀ {m : List (κ × ν)} {i : Nat}, mfind k m i = none → ∀ j, mfind k m j = none
  | [], _, _, _ => rfl
  | e :: m, i, h, j => by
    unfold mfind at h ⊢
    split at h
    · cases h
    · rename_i hk; rw [if_neg hk]; exact mfind_none h (j + 1)
theorem mget_cons (k : κ) (e : κ × ν) (m : List (κ × ν)) (z : ν) : mget k (e :: m) z = if k = e.1 then e.2 else mget k m z := by
  by_cases hk : k = e.1
  · rw [if_pos hk]
    unfold mget mfind
    rw [if_pos hk]
  · rw [if_neg hk]
    unfold mget
    have h0 : mfind k (e :: m) 0 = mfind k m (0 + 1) := by rw [mfind, if_neg hk]
    rw [h0]
    have key : ∀ (m : List (κ × ν)) i j, (mfind k m i).map (·.2) = (mfind k m j).map (·.2) := by
      intro m
      induction m with
      | nil => intro i j; rfl
      | cons e m ih =>
        intro i j
        unfold mfind
        split
        · rfl
        · exact ih _ _
    have := key m (0 + 1) 0
    cases h1 : mfind k m (0 + 1) <;> cases h2 : mfind k m 0 <;> rw [h1, h2] at this <;> simp_all
theorem mget_append (k k' : κ) (v : ν) (z : ν) : ∀ (m : List (κ × ν)), mfind k' m 0 = none → mget k (m ++ [(k', v)]) z = if k = k' then v else mget k m z
  | [], _ => by rw [List.nil_append, mget_cons]
  | e :: m, h => by
    have h' : k' ≠ e.1 ∧ mfind k' m 0 = none := by
      unfold mfind at h
      split at h
      · cases h
      · rename_i hk; exact ⟨hk, mfind_none h 0⟩
    rw [List.cons_append, mget_cons, mget_append k k' v z m h'.2, mget_cons]
    by_cases h1 : k = e.1
    · rw [if_pos h1, if_pos h1, if_neg (fun (h2 : k = k') => h'.1 (h2 ▸ h1))]
    · rw [if_neg h1, if_neg h1]
theorem mget_setAt (k k' : κ) (v : ν) (z : ν) : ∀ (m : List (κ × ν)) (n i : Nat) (x : ν), mfind k' m n = some (n + i, x) → mget k (m.set i (k', v)) z = if k = k' then v else mget k m z
  | [], _, _, _, h => by cases h
  | e :: m, n, i, x, h => by
    unfold mfind at h
    split at h
    · rename_i hk
      simp only [Option.some.injEq, Prod.mk.injEq] at h
      have : i = 0 := by omega
      subst this
      rw [List.set_cons_zero, mget_cons, mget_cons, hk]
      by_cases h1 : k = e.1
      · rw [if_pos h1, if_pos h1]
      · rw [if_neg h1, if_neg h1, if_neg h1]
    · rename_i hk
      have hi := (mfind_get h).1
      simp only [] at hi
      obtain ⟨i', rfl⟩ : ∃ i', i = i' + 1 := ⟨i - 1, by omega⟩
      rw [List.set_cons_succ, mget_cons, mget_setAt k k' v z m (n + 1) i' x (by rw [h]; congr 2; omega), mget_cons]
      by_cases h1 : k = e.1
      · rw [if_pos h1, if_pos h1, if_neg (fun (h2 : k = k') => hk (h2 ▸ h1))]
      · rw [if_neg h1, if_neg h1]
theorem mget_mset (k k' : κ) (v z : ν) (m : List (κ × ν)) : mget k (mset k' v m) z = if k = k' then v else mget k m z := by
  unfold mset
  cases h : mfind k' m 0 with
  | none => exact mget_append k k' v z m h
  | some x =>
    obtain ⟨i, y⟩ := x
    exact mget_setAt k k' v z m 0 i y (by rw [h, Nat.zero_add])
/-- What has been set under keys of a list. -/
theorem mget_keys {α : Type} (p : α → Bool) (f : α → κ) (xs : List α) (k : κ) : mget k (xs.foldl (fun m x => bif p x then mset (f x) true m else m) []) false = xs.any fun x => p x && decide (f x = k) := by
  have key : ∀ (xs : List α) (m : List (κ × Bool)), mget k (xs.foldl (fun m x => bif p x then mset (f x) true m else m) m) false = (mget k m false || xs.any fun x => p x && decide (f x = k)) := by
    intro xs
    induction xs with
    | nil => intro m; simp
    | cons x xs ih =>
      intro m
      rw [List.foldl_cons, ih, List.any_cons]
      cases hp : p x with
      | false => simp
      | true =>
        rw [cond_true, mget_mset]
        by_cases hk : k = f x
        · rw [if_pos hk]; simp [hk]
        · rw [if_neg hk]
          have : decide (f x = k) = false := decide_eq_false (fun h => hk h.symm)
          simp [this]
  rw [key]
  rfl
end
theorem firstO_any {ρ : Type} (n : Nat) (p : Nat → Bool) (r : ρ) (e : Option ρ) : firstO n (fun i => bif p i then some r else none) e = bif (List.range n).any p then some r else e := by
  rcases first_cases n (fun i => bif p i then some r else none) with h | ⟨i, r', hi, hj, hr⟩
  · rw [firstO_none h]
    have : (List.range n).any p = false := by
      rw [List.any_eq_false]
      intro x hx
      have := h x (List.mem_range.1 hx)
      cases hp : p x <;> simp_all
    rw [this]; rfl
  · rw [firstO_some hi hj hr]
    have hp : p i = true := by cases hp : p i <;> simp_all
    have : (List.range n).any p = true := List.any_eq_true.2 ⟨i, List.mem_range.2 hi, hp⟩
    rw [this]
    simp_all
theorem firstO_all (n : Nat) (p : Nat → Bool) (e : Bool) : firstO n (fun i => bif p i then none else some false) (some e) = some ((List.range n).all p && e) := by
  have : (fun i => bif p i then (none : Option Bool) else some false) = fun i => bif !p i then some false else none := by funext i; cases p i <;> rfl
  rw [this, firstO_any]
  have : ((List.range n).any fun i => !p i) = !((List.range n).all p) := by rw [List.not_all_eq_any_not]
  rw [this]
  cases (List.range n).all p <;> rfl
theorem firstO_is {ρ : Type} (n : Nat) (b : Nat → Option ρ) {e : Option ρ} (h : ∃ r, e = some r) : ∃ r, firstO n b e = some r := by
  unfold firstO
  split
  · exact ⟨_, rfl⟩
  · exact h
theorem firstO_congr {ρ : Type} {n : Nat} {b b' : Nat → Option ρ} {e e' : Option ρ} (h : ∀ i, i < n → b i = b' i) (he : (∀ i, i < n → b i = none) → e = e') : firstO n b e = firstO n b' e' := by
  rcases first_cases n b with h1 | ⟨i, r, hi, hj, hr⟩
  · rw [firstO_none h1, firstO_none (fun i hi => by rw [← h i hi]; exact h1 i hi)]; exact he h1
  · rw [firstO_some hi hj hr, firstO_some hi (fun j hl => by rw [← h j (by omega)]; exact hj j hl) (by rw [← h i hi]; exact hr)]
theorem cond_some {α : Type} (b : Bool) (x y : α) : (bif b then some x else some y) = some (bif b then x else y) := by cases b <;> rfl
theorem range_any_take {α : Type} (xs : List α) (g : α → Bool) : ∀ i, ((List.range i).any fun j => (xs[j]?).any g) = (xs.take i).any g
  | 0 => by simp
  | i + 1 => by
    rw [List.range_succ, List.any_append, range_any_take xs g i, List.take_add_one, List.any_append, List.any_cons, List.any_nil, Bool.or_false]
    cases xs[i]? <;> simp [Option.any]
theorem foldl_take {α β : Type} (g : β → α → β) (a : β) {xs : List α} {i : Nat} {x : α} (h : xs[i]? = some x) : (xs.take (i + 1)).foldl g a = g ((xs.take i).foldl g a) x := by
  rw [List.take_add_one, List.foldl_append, h]; rfl
theorem byteAt_ok {s : ByteArray} {i : Nat} (h : i < s.size) : byteAt s (i : Int) = some ((byteAt s (i : Int)).getD 0) := by
  unfold byteAt
  rw [if_pos (by omega), Int.toNat_natCast, getElem?_pos s i h]
  rfl
theorem loopO_elim {σ ρ : Type} (F : σ → Option (σ ⊕ ρ)) (s : σ) : loopO F s = (F s).bind (Sum.elim (loopO F) some) := by
  rw [loopO_eq]
  congr 1
  funext x
  cases x <;> rfl
theorem firstO_step {σ ρ : Type} (n : Nat) (b : Nat → Option ρ) (s : σ) (k : σ → Option ρ) : ((firstO n (fun i => (b i).map Sum.inr) (some (.inl s))).bind (Sum.elim k some)) = firstO n b (k s) := by
  rcases first_cases n b with h | ⟨i, r, hi, hj, hr⟩
  · rw [firstO_none h, firstO_none (fun i hi => by rw [h i hi]; rfl)]; rfl
  · rw [firstO_some hi hj hr, firstO_some (r := .inr r) hi (fun j hl => by rw [hj j hl]; rfl) (by rw [hr]; rfl)]; rfl
theorem mget_counts {κ : Type} [DecidableEq κ] (xs : List κ) (k : κ) : mget k (xs.foldl (fun m x => mset x (w64 (mget x m 0 + 1)) m) []) 0 = xs.foldl (fun a x => bif decide (x = k) then w64 (a + 1) else a) (0 : Int) := by
  have key : ∀ (xs : List κ) (m : List (κ × Int)), mget k (xs.foldl (fun m x => mset x (w64 (mget x m 0 + 1)) m) m) 0 = xs.foldl (fun a x => bif decide (x = k) then w64 (a + 1) else a) (mget k m 0) := by
    intro xs
    induction xs with
    | nil => intro m; rfl
    | cons x xs ih =>
      intro m
      rw [List.foldl_cons, ih, List.foldl_cons, mget_mset]
      by_cases hk : x = k
      · subst hk; simp
      · rw [if_neg (fun h => hk h.symm)]; simp [hk]
  rw [key]
  rfl
theorem firstO_mem {ρ : Type} {n : Nat} {b : Nat → Option ρ} {e : Option ρ} {r : ρ} (h : firstO n b e = some r) : (∃ i, i < n ∧ b i = some r) ∨ ((∀ i, i < n → b i = none) ∧ e = some r) := by
  rcases first_cases n b with h1 | ⟨i, r', hi, hj, hr⟩
  · rw [firstO_none h1] at h; exact .inr ⟨h1, h⟩
  · rw [firstO_some hi hj hr] at h; exact .inl ⟨i, hi, hr.trans h⟩
theorem bif_some {α : Type} {b : Bool} {x y : α} (h : (bif b then some x else none) = some y) : b = true ∧ x = y := by
  cases b
  · cases h
  · exact ⟨rfl, by simpa using h⟩
theorem bif_none {α : Type} {b : Bool} {x : α} (h : (bif b then some x else none) = none) : b = false := by
  cases b
  · rfl
  · cases h
theorem firstO_elim {σ ρ : Type} (n : Nat) (b : Nat → Option ρ) (s : σ) : firstO n (fun i => (b i).map Sum.inr) (some (.inl s)) = some ((firstO n b none).elim (.inl s) .inr) := by
  rcases first_cases n b with h | ⟨i, r, hi, hj, hr⟩
  · rw [firstO_none h, firstO_none (fun i hi => by rw [h i hi]; rfl)]; rfl
  · rw [firstO_some hi hj hr, firstO_some (r := .inr r) hi (fun j hl => by rw [hj j hl]; rfl) (by rw [hr]; rfl)]; rfl
theorem firstO_no {ρ : Type} {n : Nat} {b : Nat → Option ρ} {e : Option ρ} (h : firstO n b e = none) : ∀ i, i < n → b i = none := by
  rcases first_cases n b with h1 | ⟨i, r, hi, hj, hr⟩
  · exact h1
  · rw [firstO_some hi hj hr] at h; cases h
/-- Two loops that do the same. -/
theorem loop_twin {σ ρ : Type} {F F' : σ → Option (σ ⊕ ρ)} (n : Nat) (Inv : Nat → σ → Prop) (s0 : σ) (h0 : Inv 0 s0) (h : ∀ i s, i < n → Inv i s → F s = F' s ∧ ((∃ s', F' s = some (.inl s') ∧ Inv (i + 1) s') ∨ ∃ r, F' s = some (.inr r))) (hend : ∀ s, Inv n s → F s = F' s ∧ ∃ r, F' s = some (.inr r)) : ∃ r, loopO F s0 = some r ∧ loopO F' s0 = some r := by
  have key : ∀ k i s, i + k = n → Inv i s → ∃ r, loopO F s = some r ∧ loopO F' s = some r := by
    intro k
    induction k with
    | zero =>
      intro i s hi hs
      have : i = n := by omega
      subst this
      obtain ⟨h1, r, h2⟩ := hend s hs
      exact ⟨r, by rw [loopO_eq, h1, h2]; rfl, by rw [loopO_eq, h2]; rfl⟩
    | succ k ih =>
      intro i s hi hs
      obtain ⟨h1, h2⟩ := h i s (by omega) hs
      rcases h2 with ⟨s', h2, h3⟩ | ⟨r, h2⟩
      · obtain ⟨r, h4, h5⟩ := ih (i + 1) s' (by omega) h3
        exact ⟨r, by rw [loopO_eq, h1, h2]; exact h4, by rw [loopO_eq, h2]; exact h5⟩
      · exact ⟨r, by rw [loopO_eq, h1, h2]; rfl, by rw [loopO_eq, h2]; rfl⟩
  exact key n 0 s0 (by omega) h0
/-! ### slices.Contains over numbers -/
theorem found_any {α : Type} (xs : List α) (p : α → Bool) (e : Option Int) (he : e = some (-1)) : (firstO xs.length (fun i => bif (xs[i]?).any p then some (i : Int) else none) e).bind (fun v => some (decide (v ≥ (0:Int)))) = some (xs.any p) := by
  subst he
  obtain ⟨r, hr⟩ := firstO_is xs.length (fun i => bif (xs[i]?).any p then some (i : Int) else none) (e := some (-1)) ⟨_, rfl⟩
  rw [hr, Option.bind_some]
  have ht := range_any_take xs p xs.length
  rw [List.take_length] at ht
  rw [← ht]
  rcases firstO_mem hr with ⟨i, hi, h⟩ | ⟨h, h2⟩
  · obtain ⟨h3, rfl⟩ := bif_some h
    congr 1
    rw [Bool.eq_iff_iff, decide_eq_true_eq, List.any_eq_true]
    exact ⟨fun _ => ⟨i, List.mem_range.2 hi, h3⟩, fun _ => by omega⟩
  · have : r = -1 := by simpa using h2.symm
    subst this
    congr 1
    rw [Bool.eq_iff_iff, decide_eq_true_eq, List.any_eq_true]
    constructor
    · intro h; omega
    · rintro ⟨i, hi, h3⟩
      have := bif_none (h i (List.mem_range.1 hi))
      rw [h3] at this; cases this
theorem indexI {xs : List Int} (hl : xs.length ≤ 1048576) (v : Int) : f260 xs v = firstO xs.length (fun i => bif (xs[i]?).any (fun y => decide (v = y)) then some (i : Int) else none) (some (-1)) := by
  unfold f260
  refine loop_find xs.length (fun i => (i : Int)) _ _ (fun i hi _ => ?_) (fun _ => ?_)
  · unfold f260_L1
    simp only [lt_t hi, cond_true, getI_nat, List.getElem?_eq_getElem hi, Option.bind_some, Option.any_some, w64_nat (show i < 9223372036854775807 by omega)]
    by_cases hc : v = xs[i]
    · rw [decide_eq_true hc, beq_iff_eq.2 hc]; rfl
    · rw [decide_eq_false hc, beq_eq_false_iff_ne.2 hc]; rfl
  · unfold f260_L1
    simp only [lt_f, cond_false]
theorem containsI {xs : List Int} (hl : xs.length ≤ 1048576) (v : Int) : f161 xs v = some (xs.any fun y => decide (v = y)) := by
  unfold f161
  rw [indexI hl]
  exact found_any xs _ _ rfl
/-! ### Which routes exclude each other -/
/-- A loop over a list that breaks off at the first that fits. -/
theorem loop_brk {α ρ : Type} (xs : List α) (p : α → Bool) (v : ρ) {rest : Option ρ} {F : Int → Option (Int ⊕ ρ)} (h : ∀ (i : Nat) (x : α), xs[i]? = some x → F (i : Int) = some (bif p x then .inr v else .inl ((i + 1 : Nat) : Int))) (hend : F (xs.length : Int) = rest.map Sum.inr) : loopO F (0 : Int) = bif xs.any p then some v else rest := by
  have h1 : loopO F (((0 : Nat)) : Int) = firstO xs.length (fun k => bif (xs[k]?).any p then some v else none) rest := by
    refine loop_find xs.length (fun k => (k : Int)) _ _ (fun k hk _ => ?_) (fun _ => hend)
    have hg := List.getElem?_eq_getElem hk
    rw [h k _ hg, hg, Option.any_some]
    cases p xs[k] <;> rfl
  rw [show (0 : Int) = (((0 : Nat)) : Int) from rfl, h1, firstO_any, range_any_take, List.take_length]
def touchB (a b : List Part) : Bool := a.any fun x => b.any fun y => ((x.Piece == y.Piece) && decide (x.From ≤ y.To)) && decide (y.From ≤ x.To)
theorem touch_spec (a b : List Part) (ha : a.length ≤ 1048576) (hb : b.length ≤ 1048576) : f154 a b = some (touchB a b) := by
  unfold f154 touchB
  rw [loop_brk a (fun x => b.any fun y => ((x.Piece == y.Piece) && decide (x.From ≤ y.To)) && decide (y.From ≤ x.To)) true (rest := some false) (fun i x hx => ?_) ?_]
  · cases (a.any fun x => b.any fun y => ((x.Piece == y.Piece) && decide (x.From ≤ y.To)) && decide (y.From ≤ x.To)) <;> rfl
  rotate_left
  · have hi := get_lt hx
    unfold f154_L1
    simp only [lt_t hi, cond_true, getI_nat, hx, Option.bind_some]
    rw [loop_brk b (fun y => ((x.Piece == y.Piece) && decide (x.From ≤ y.To)) && decide (y.From ≤ x.To)) (.inr true) (rest := some (.inl ((i + 1 : Nat) : Int))) (fun k y hy => ?_) ?_]
    · cases (b.any fun y => ((x.Piece == y.Piece) && decide (x.From ≤ y.To)) && decide (y.From ≤ x.To)) <;> rfl
    rotate_left
    · have hk := get_lt hy
      unfold f154_L2
      simp only [lt_t hk, cond_true, getI_nat, hy, Option.bind_some, w64_nat (show k < 9223372036854775807 by omega)]
      cases (((x.Piece == y.Piece) && decide (x.From ≤ y.To)) && decide (y.From ≤ x.To)) <;> rfl
    · unfold f154_L2
      simp only [lt_f, cond_false, w64_nat (show i < 9223372036854775807 by omega)]
  · unfold f154_L1
    simp only [lt_f, cond_false]
theorem touch_impl (a b : List Part) : f160 a b = f154 a b := rfl
def sameLie (l y : Lie) : Bool := (y.Joint == l.Joint) && (y.Lie == l.Lie)
def putL (xs : List Lie) (l : Lie) : List Lie := bif xs.any (sameLie l) then xs else xs ++ [l]
def putF (xs : List Lie) (f : Flank) : List Lie := bif f.Kind == (3:Int) then putL xs { Joint := f.Of, Lie := f.Lie } else xs
def needsB (r : Route) : List Lie := r.Flanks.foldl putF r.Lies
theorem putF_len (xs : List Lie) (f : Flank) : (putF xs f).length ≤ xs.length + 1 := by
  unfold putF putL
  cases (f.Kind == (3:Int))
  · simp
  · cases xs.any (sameLie _) <;> simp
theorem foldF_len : ∀ (fs : List Flank) (xs : List Lie), (fs.foldl putF xs).length ≤ xs.length + fs.length
  | [], xs => by simp
  | f :: fs, xs => by
    rw [List.foldl_cons, List.length_cons]
    have h1 := foldF_len fs (putF xs f)
    have h2 := putF_len xs f
    omega
theorem foldF_take_len (r : Route) (hl : r.Lies.length ≤ 1048576) (hf : r.Flanks.length ≤ 1048576) (i : Nat) : ((r.Flanks.take i).foldl putF r.Lies).length ≤ 2097152 := by
  have h := foldF_len (r.Flanks.take i) r.Lies
  have h2 : (r.Flanks.take i).length ≤ r.Flanks.length := by rw [List.length_take]; omega
  omega
theorem needs_len (r : Route) (hl : r.Lies.length ≤ 1048576) (hf : r.Flanks.length ≤ 1048576) : (needsB r).length ≤ 2097152 := by
  have := foldF_len r.Flanks r.Lies
  unfold needsB
  omega
theorem indexL {xs : List Lie} (hl : xs.length ≤ 2097152) (v : Lie) : f323 xs v = firstO xs.length (fun i => bif (xs[i]?).any (sameLie v) then some (i : Int) else none) (some (-1)) := by
  unfold f323
  refine loop_find xs.length (fun i => (i : Int)) _ _ (fun i hi _ => ?_) (fun _ => ?_)
  · unfold f323_L1
    simp only [lt_t hi, cond_true, getI_nat, List.getElem?_eq_getElem hi, Option.bind_some, Option.any_some, w64_nat (show i < 9223372036854775807 by omega), sameLie, Bool.and_true]
    rw [show (v.Joint == xs[i].Joint) = (xs[i].Joint == v.Joint) from Bool.beq_comm, show (v.Lie == xs[i].Lie) = (xs[i].Lie == v.Lie) from Bool.beq_comm]
    cases ((xs[i].Joint == v.Joint) && (xs[i].Lie == v.Lie)) <;> rfl
  · unfold f323_L1
    simp only [lt_f, cond_false]
theorem containsL {xs : List Lie} (hl : xs.length ≤ 2097152) (v : Lie) : f262 xs v = some (xs.any (sameLie v)) := by
  unfold f262
  rw [indexL hl]
  exact found_any xs _ _ rfl
theorem put_impl (l : Lie) (xs : List Lie) (hl : xs.length ≤ 2097152) : f261 l xs = some (putL xs l) := by
  unfold f261 putL
  rw [containsL hl, Option.bind_some]
  cases xs.any (sameLie l) with
  | true => rfl
  | false =>
    rw [appB_ok (by simp; omega)]
    rfl
theorem needs_impl (r : Route) (hl : r.Lies.length ≤ 1048576) (hf : r.Flanks.length ≤ 1048576) : f162 r = some (needsB r) := by
  unfold f162
  rw [appB_ok (by simp; omega), Option.bind_some, List.nil_append]
  have := loopO_run (F := f162_L1 r) (r := needsB r) r.Flanks.length (fun i => ((r.Flanks.take i).foldl putF r.Lies, (i : Int))) (fun i hi => ?_) ?_
  · exact this
  · have hg := List.getElem?_eq_getElem hi
    have hlen := foldF_take_len r hl hf i
    unfold f162_L1 f162_k2
    simp only [lt_t hi, cond_true, getI_nat, hg, Option.bind_some, w64_nat (show i < 9223372036854775807 by omega), put_impl _ _ hlen]
    rw [foldl_take putF r.Lies hg]
    unfold putF
    cases (r.Flanks[i].Kind == (3:Int)) <;> rfl
  · unfold f162_L1 needsB
    simp only [lt_f, cond_false, List.take_length]
    rfl
theorem needs_spec (r : Route) (hl : r.Lies.length ≤ 1048576) (hf : r.Flanks.length ≤ 1048576) : f155 r = some (needsB r) := by
  unfold f155
  have h2 : loopO (f155_L2 r) (r.Lies, (0:Int)) = some (needsB r) := by
    have := loopO_run (F := f155_L2 r) (r := needsB r) r.Flanks.length (fun i => ((r.Flanks.take i).foldl putF r.Lies, (i : Int))) (fun i hi => ?_) ?_
    · exact this
    · have hg := List.getElem?_eq_getElem hi
      have hlen := foldF_take_len r hl hf i
      rw [foldl_take putF r.Lies hg]
      generalize hx : (r.Flanks.take i).foldl putF r.Lies = xs at hlen ⊢
      unfold f155_L2 f155_k3
      simp only [lt_t hi, cond_true, getI_nat, hg, Option.bind_some, w64_nat (show i < 9223372036854775807 by omega)]
      unfold putF
      rw [show (r.Flanks[i].Kind != (3:Int)) = !(r.Flanks[i].Kind == (3:Int)) from rfl]
      cases (r.Flanks[i].Kind == (3:Int)) with
      | false => rfl
      | true =>
        simp only [Bool.not_true, cond_false, cond_true]
        have h4 := loopO_run (F := f155_L4 xs (i : Int) r.Flanks[i]) (r := .inl (putL xs { Joint := r.Flanks[i].Of, Lie := r.Flanks[i].Lie }, ((i + 1 : Nat) : Int))) xs.length (fun k => (xs, (xs.take k).any (sameLie { Joint := r.Flanks[i].Of, Lie := r.Flanks[i].Lie }), (k : Int))) (fun k hk => ?_) ?_
        · exact h4
        · have hgk := List.getElem?_eq_getElem hk
          unfold f155_L4
          simp only [lt_t hk, cond_true, getI_nat, hgk, Option.bind_some, w64_nat (show k < 9223372036854775807 by omega)]
          rw [List.take_add_one, List.any_append, hgk]
          simp only [Option.toList_some, List.any_cons, List.any_nil, Bool.or_false, sameLie]
        · unfold f155_L4 f155_k3 putL
          simp only [lt_f, cond_false, List.take_length, w64_nat (show i < 9223372036854775807 by omega)]
          cases xs.any (sameLie { Joint := r.Flanks[i].Of, Lie := r.Flanks[i].Lie }) with
          | true => rfl
          | false =>
            simp only [Bool.not_false, cond_true]
            rw [appB_ok (by simp; omega)]
            rfl
    · unfold f155_L2 needsB
      simp only [lt_f, cond_false, List.take_length]
      rfl
  have := loopO_run (F := f155_L1 r) (r := needsB r) r.Lies.length (fun i => (r.Lies.take i, (i : Int))) (fun i hi => ?_) ?_
  · exact this
  · have hg := List.getElem?_eq_getElem hi
    unfold f155_L1
    simp only [lt_t hi, cond_true, getI_nat, hg, Option.bind_some, w64_nat (show i < 9223372036854775807 by omega)]
    rw [appB_ok (by simp; omega), Option.bind_some, List.take_add_one, hg]
    rfl
  · unfold f155_L1
    simp only [lt_f, cond_false, List.take_length, h2, Option.map_some]
/-- Why two routes exclude each other. -/
def exclB (a b : Route) : Int := bif touchB a.Parts b.Parts then 1 else bif a.Crosses.any (fun x => b.Crosses.any fun y => decide (x = y)) then 2 else bif (needsB a).any (fun x => (needsB b).any fun y => (x.Joint == y.Joint) && (x.Lie != y.Lie)) then 3 else bif touchB a.Over b.Parts || touchB a.Parts b.Over then 4 else 0
def smR (r : Route) : Prop := r.Parts.length ≤ 1048576 ∧ r.Over.length ≤ 1048576 ∧ r.Crosses.length ≤ 1048576 ∧ r.Lies.length ≤ 1048576 ∧ r.Flanks.length ≤ 1048576
theorem excl_spec {a b : Route} (ha : smR a) (hb : smR b) : f47 a b = some (exclB a b) := by
  obtain ⟨a1, a2, a3, a4, a5⟩ := ha
  obtain ⟨b1, b2, b3, b4, b5⟩ := hb
  unfold f47 exclB
  rw [touch_spec _ _ a1 b1, Option.bind_some]
  cases touchB a.Parts b.Parts with
  | true => rfl
  | false =>
    simp only [cond_false]
    have h3 : loopO (f47_L3 a b (needsB a)) (0:Int) = some (bif (needsB a).any (fun x => (needsB b).any fun y => (x.Joint == y.Joint) && (x.Lie != y.Lie)) then 3 else bif touchB a.Over b.Parts || touchB a.Parts b.Over then 4 else 0) := by
      have na := needs_len a a4 a5
      have nb := needs_len b b4 b5
      rw [loop_brk (needsB a) (fun x => (needsB b).any fun y => (x.Joint == y.Joint) && (x.Lie != y.Lie)) (3:Int) (rest := some (bif touchB a.Over b.Parts || touchB a.Parts b.Over then 4 else 0)) (fun i x hx => ?_) ?_]
      · cases (needsB a).any (fun x => (needsB b).any fun y => (x.Joint == y.Joint) && (x.Lie != y.Lie)) <;> rfl
      rotate_left
      · have hi := get_lt hx
        unfold f47_L3
        simp only [lt_t hi, cond_true, getI_nat, hx, Option.bind_some, needs_spec b b4 b5]
        rw [loop_brk (needsB b) (fun y => (x.Joint == y.Joint) && (x.Lie != y.Lie)) (.inr (3:Int)) (rest := some (.inl ((i + 1 : Nat) : Int))) (fun k y hy => ?_) ?_]
        · cases ((needsB b).any fun y => (x.Joint == y.Joint) && (x.Lie != y.Lie)) <;> rfl
        rotate_left
        · have hk := get_lt hy
          unfold f47_L4
          simp only [lt_t hk, cond_true, getI_nat, hy, Option.bind_some, w64_nat (show k < 9223372036854775807 by omega)]
          cases ((x.Joint == y.Joint) && (x.Lie != y.Lie)) <;> rfl
        · unfold f47_L4
          simp only [lt_f, cond_false, w64_nat (show i < 9223372036854775807 by omega)]
      · unfold f47_L3
        simp only [lt_f, cond_false, touch_spec _ _ a2 b1, touch_spec _ _ a1 b2, Option.bind_some]
        cases touchB a.Over b.Parts <;> cases touchB a.Parts b.Over <;> rfl
    rw [loop_brk a.Crosses (fun x => b.Crosses.any fun y => decide (x = y)) (2:Int) (fun i x hx => ?_) (rest := some (bif (needsB a).any (fun x => (needsB b).any fun y => (x.Joint == y.Joint) && (x.Lie != y.Lie)) then 3 else bif touchB a.Over b.Parts || touchB a.Parts b.Over then 4 else 0)) ?_]
    · cases a.Crosses.any (fun x => b.Crosses.any fun y => decide (x = y)) <;> rfl
    rotate_left
    · have hi := get_lt hx
      unfold f47_L1
      simp only [lt_t hi, cond_true, getI_nat, hx, Option.bind_some]
      rw [loop_brk b.Crosses (fun y => decide (x = y)) (.inr (2:Int)) (rest := some (.inl ((i + 1 : Nat) : Int))) (fun k y hy => ?_) ?_]
      · cases (b.Crosses.any fun y => decide (x = y)) <;> rfl
      rotate_left
      · have hk := get_lt hy
        unfold f47_L2
        simp only [lt_t hk, cond_true, getI_nat, hy, Option.bind_some, w64_nat (show k < 9223372036854775807 by omega)]
        by_cases hc : x = y
        · rw [decide_eq_true hc, beq_iff_eq.2 hc]; rfl
        · rw [decide_eq_false hc, beq_eq_false_iff_ne.2 hc]; rfl
      · unfold f47_L2
        simp only [lt_f, cond_false, w64_nat (show i < 9223372036854775807 by omega)]
    · unfold f47_L1
      simp only [lt_f, cond_false, needs_spec a a4 a5, Option.bind_some, h3]
theorem excl_impl {a b : Route} (ha : smR a) (hb : smR b) : f49 a b = some (exclB a b) := by
  obtain ⟨a1, a2, a3, a4, a5⟩ := ha
  obtain ⟨b1, b2, b3, b4, b5⟩ := hb
  unfold f49 exclB
  rw [touch_impl, touch_spec _ _ a1 b1, Option.bind_some]
  cases touchB a.Parts b.Parts with
  | true => rfl
  | false =>
    simp only [cond_false]
    have h3 : loopO (f49_L2 a b (needsB a)) (0:Int) = some (bif (needsB a).any (fun x => (needsB b).any fun y => (x.Joint == y.Joint) && (x.Lie != y.Lie)) then 3 else bif touchB a.Over b.Parts || touchB a.Parts b.Over then 4 else 0) := by
      have na := needs_len a a4 a5
      have nb := needs_len b b4 b5
      rw [loop_brk (needsB a) (fun x => (needsB b).any fun y => (x.Joint == y.Joint) && (x.Lie != y.Lie)) (3:Int) (rest := some (bif touchB a.Over b.Parts || touchB a.Parts b.Over then 4 else 0)) (fun i x hx => ?_) ?_]
      · cases (needsB a).any (fun x => (needsB b).any fun y => (x.Joint == y.Joint) && (x.Lie != y.Lie)) <;> rfl
      rotate_left
      · have hi := get_lt hx
        unfold f49_L2
        simp only [lt_t hi, cond_true, getI_nat, hx, Option.bind_some, needs_impl b b4 b5]
        rw [loop_brk (needsB b) (fun y => (x.Joint == y.Joint) && (x.Lie != y.Lie)) (.inr (3:Int)) (rest := some (.inl ((i + 1 : Nat) : Int))) (fun k y hy => ?_) ?_]
        · cases ((needsB b).any fun y => (x.Joint == y.Joint) && (x.Lie != y.Lie)) <;> rfl
        rotate_left
        · have hk := get_lt hy
          unfold f49_L3
          simp only [lt_t hk, cond_true, getI_nat, hy, Option.bind_some, w64_nat (show k < 9223372036854775807 by omega)]
          cases ((x.Joint == y.Joint) && (x.Lie != y.Lie)) <;> rfl
        · unfold f49_L3
          simp only [lt_f, cond_false, w64_nat (show i < 9223372036854775807 by omega)]
      · unfold f49_L2
        simp only [lt_f, cond_false, touch_impl, touch_spec _ _ a2 b1, touch_spec _ _ a1 b2, Option.bind_some]
        cases touchB a.Over b.Parts <;> cases touchB a.Parts b.Over <;> rfl
    rw [loop_brk a.Crosses (fun x => b.Crosses.any fun y => decide (x = y)) (2:Int) (fun i x hx => ?_) (rest := some (bif (needsB a).any (fun x => (needsB b).any fun y => (x.Joint == y.Joint) && (x.Lie != y.Lie)) then 3 else bif touchB a.Over b.Parts || touchB a.Parts b.Over then 4 else 0)) ?_]
    · cases a.Crosses.any (fun x => b.Crosses.any fun y => decide (x = y)) <;> rfl
    rotate_left
    · have hi := get_lt hx
      unfold f49_L1
      simp only [lt_t hi, cond_true, getI_nat, hx, Option.bind_some, containsI b3, w64_nat (show i < 9223372036854775807 by omega)]
      cases (b.Crosses.any fun y => decide (x = y)) <;> rfl
    · unfold f49_L1
      simp only [lt_f, cond_false, needs_impl a a4 a5, Option.bind_some, h3]
theorem main7 {a b : Route} (hx : fitRoute a) (hy : fitRoute b) (hs : smRoute a) (ht : smRoute b) : ∃ r, f47 a b = some r ∧ f49 a b = some r := by
  have h : ∀ {r : Route}, smRoute r → smR r := fun {r} hr => by
    exact ⟨hr.2.2.2.1.1, hr.2.2.2.2.1.1, hr.2.2.1.1, hr.2.1.1, hr.2.2.2.2.2.1⟩
  exact ⟨_, excl_spec (h hs) (h ht), excl_impl (h hs) (h ht)⟩
/-- A loop that gathers, one element after the other. -/
theorem gather {α β σ ρ : Type} {F : σ → Option (σ ⊕ ρ)} (st : List β → Int → σ) (xs : List α) (g : α → β) {r : ρ} (hstep : ∀ (row : List β) (i : Nat) (x : α), xs[i]? = some x → row.length = i → F (st row (i : Int)) = some (.inl (st (row ++ [g x]) ((i + 1 : Nat) : Int)))) (hend : F (st (xs.map g) (xs.length : Int)) = some (.inr r)) : loopO F (st [] (0 : Int)) = some r := by
  have := loopO_run (F := F) xs.length (fun i => st ((xs.take i).map g) (i : Int)) (r := r) (fun i hi => ?_) (by rw [List.take_length]; exact hend)
  · simpa using this
  · have hx : xs[i]? = some xs[i] := List.getElem?_eq_getElem hi
    rw [hstep _ i xs[i] hx (by rw [List.length_map, List.length_take]; omega), show (xs.take i).map g ++ [g xs[i]] = (xs.take (i + 1)).map g by rw [List.take_succ_eq_append_getElem hi, List.map_append]; rfl]
/-- What two routes' exclusion is. -/
def exF (a b : Route) : Int := (f47 a b).getD 0
theorem exF_eq {a b : Route} (ha : fitRoute a) (hb : fitRoute b) (hsa : smRoute a) (hsb : smRoute b) : f47 a b = some (exF a b) ∧ f49 a b = some (exF a b) := by
  obtain ⟨r, h1, h2⟩ := main7 ha hb hsa hsb
  unfold exF
  rw [h1, h2]
  exact ⟨rfl, rfl⟩
theorem main10 {rs : List Route} (hx : fitsL fitRoute rs) (hs : smL smRoute rs) : ∃ r, f61 rs = some r ∧ f63 rs = some r ∧ smL (smL (fun _ => True)) r := by
  unfold f61 f63
  by_cases h : rs.length ≤ 300
  · have e0 : decide ((rs.length : Int) > 300) = false := by rw [decide_eq_false_iff_not]; omega
    simp only [e0, cond_false]
    have hex : ∀ (i k : Nat) (a b : Route), rs[i]? = some a → rs[k]? = some b → f47 a b = some (exF a b) ∧ f49 a b = some (exF a b) := fun i k a b ha hb =>
      exF_eq (hx.2 a (List.mem_of_getElem? ha)) (hx.2 b (List.mem_of_getElem? hb)) (hs.2 a (List.mem_of_getElem? ha)) (hs.2 b (List.mem_of_getElem? hb))
    refine ⟨rs.map fun a => rs.map (exF a), ?_, ?_, ?_, ?_⟩
    · refine gather (F := f61_L1 rs) (fun out i => (out, i)) rs (fun a => rs.map (exF a)) (fun out i a ha hi => ?_) ?_
      · have hlt := get_lt ha
        unfold f61_L1
        simp only [lt_t hlt, cond_true, getI_nat, ha, Option.bind_some]
        refine gather (F := f61_L2 rs (i : Int) a) (fun row k => (out, row, k)) rs (exF a) (fun row k b hb hk => ?_) ?_
        · have hkl := get_lt hb
          unfold f61_L2
          simp only [lt_t hkl, cond_true, getI_nat, hb, Option.bind_some, (hex i k a b ha hb).1]
          rw [appB_ok (by simp only [List.length_singleton]; omega), Option.bind_some, w64_nat (by omega)]
        · unfold f61_L2
          simp only [lt_f, cond_false]
          rw [appB_ok (by simp only [List.length_singleton]; omega), Option.bind_some, w64_nat (by omega)]
          rfl
      · unfold f61_L1
        simp only [lt_f, cond_false, Option.map_some]
    · refine gather (F := f63_L1 rs) (fun out i => (out, i)) rs (fun a => rs.map (exF a)) (fun out i a ha hi => ?_) ?_
      · have hlt := get_lt ha
        unfold f63_L1
        simp only [lt_t hlt, cond_true, getI_nat, ha, Option.bind_some]
        refine gather (F := f63_L2 rs (i : Int) a) (fun row k => (out, row, k)) rs (exF a) (fun row k b hb hk => ?_) ?_
        · have hkl := get_lt hb
          unfold f63_L2
          simp only [lt_t hkl, cond_true, getI_nat, hb, Option.bind_some, (hex i k a b ha hb).2]
          rw [appB_ok (by simp only [List.length_singleton]; omega), Option.bind_some, w64_nat (by omega)]
        · unfold f63_L2
          simp only [lt_f, cond_false]
          rw [appB_ok (by simp only [List.length_singleton]; omega), Option.bind_some, w64_nat (by omega)]
          rfl
      · unfold f63_L1
        simp only [lt_f, cond_false, Option.map_some]
    · rw [List.length_map]; omega
    · intro row hr
      obtain ⟨a, _, rfl⟩ := List.mem_map.1 hr
      exact ⟨by rw [List.length_map]; omega, fun _ _ => trivial⟩
  · have e0 : decide ((rs.length : Int) > 300) = true := by rw [decide_eq_true_eq]; omega
    simp only [e0, cond_true]
    exact ⟨[], rfl, rfl, by simp, fun _ h => by cases h⟩

def mk_Step (x : Step) (k : Int) : Step := { Piece := k, Way := k + 1 }
def ck_Step (x : Step) : Nat := 1 + (1)
def mk_Lie (x : Lie) (k : Int) : Lie := { Joint := k, Lie := k + 1 }
def ck_Lie (x : Lie) : Nat := 1 + (1)
def mk_Part (x : Part) (k : Int) : Part := { Piece := k, From := k + 1, To := k + 1 + 1 }
def ck_Part (x : Part) : Nat := 1 + (1 + (1))
def mk_Flank (x : Flank) (k : Int) : Flank := { At := k, Kind := k + 1, Of := k + 1 + 1, Lie := k + 1 + 1 + 1 }
def ck_Flank (x : Flank) : Nat := 1 + (1 + (1 + (1)))
def mk_Route (x : Route) (k : Int) : Route := { From := k, To := k + 1, Steps := markAll mk_Step ck_Step x.Steps (k + 1 + 1), Lies := markAll mk_Lie ck_Lie x.Lies (k + 1 + 1 + ((csum ck_Step x.Steps : Nat) : Int)), Crosses := markAll mkI (fun _ => 1) x.Crosses (k + 1 + 1 + ((csum ck_Step x.Steps : Nat) : Int) + ((csum ck_Lie x.Lies : Nat) : Int)), Parts := markAll mk_Part ck_Part x.Parts (k + 1 + 1 + ((csum ck_Step x.Steps : Nat) : Int) + ((csum ck_Lie x.Lies : Nat) : Int) + ((csum (fun _ => 1) x.Crosses : Nat) : Int)), Over := markAll mk_Part ck_Part x.Over (k + 1 + 1 + ((csum ck_Step x.Steps : Nat) : Int) + ((csum ck_Lie x.Lies : Nat) : Int) + ((csum (fun _ => 1) x.Crosses : Nat) : Int) + ((csum ck_Part x.Parts : Nat) : Int)), Flanks := markAll mk_Flank ck_Flank x.Flanks (k + 1 + 1 + ((csum ck_Step x.Steps : Nat) : Int) + ((csum ck_Lie x.Lies : Nat) : Int) + ((csum (fun _ => 1) x.Crosses : Nat) : Int) + ((csum ck_Part x.Parts : Nat) : Int) + ((csum ck_Part x.Over : Nat) : Int)) }
def ck_Route (x : Route) : Nat := 1 + (1 + (csum ck_Step x.Steps + (csum ck_Lie x.Lies + (csum (fun _ => 1) x.Crosses + (csum ck_Part x.Parts + (csum ck_Part x.Over + (csum ck_Flank x.Flanks)))))))
theorem f179_mark {x : List Step} {k : Int} (hx : (smL (fun _ => True)) x) (h0 : 0 ≤ k) (hb : k + ((csum ck_Step x : Nat) : Int) ≤ 4611686018427387904) : f179 x k = some (markAll mk_Step ck_Step x k, k + ((csum ck_Step x : Nat) : Int)) := by
  have hl := hx.1
  unfold f179
  refine mark_loop (F := f179_L1) (fun xs k i => (xs, k, i)) mk_Step ck_Step (fun _ => True) x.length (fun pre y post k hp h0 hb hn => ?_) (fun ys k hn => ?_) x [] k hx.2 h0 hb rfl
  · have hlen := len_mid hn
    have hb' : k + ((1 + (1) : Nat) : Int) ≤ 4611686018427387904 := hb
    unfold f179_L1
    simp (disch := omega) only [lt_mid, cond_true, getI_mid, set_mid, Option.bind_some, w64_up]
    rw [show k + ((ck_Step y : Nat) : Int) = k + 1 + 1 from by show k + ((1 + (1) : Nat) : Int) = _; omega]
    rfl
  · unfold f179_L1
    simp only [← hn, lt_f, cond_false, Option.map_some]
theorem f180_mark {x : List Lie} {k : Int} (hx : (smL (fun _ => True)) x) (h0 : 0 ≤ k) (hb : k + ((csum ck_Lie x : Nat) : Int) ≤ 4611686018427387904) : f180 x k = some (markAll mk_Lie ck_Lie x k, k + ((csum ck_Lie x : Nat) : Int)) := by
  have hl := hx.1
  unfold f180
  refine mark_loop (F := f180_L1) (fun xs k i => (xs, k, i)) mk_Lie ck_Lie (fun _ => True) x.length (fun pre y post k hp h0 hb hn => ?_) (fun ys k hn => ?_) x [] k hx.2 h0 hb rfl
  · have hlen := len_mid hn
    have hb' : k + ((1 + (1) : Nat) : Int) ≤ 4611686018427387904 := hb
    unfold f180_L1
    simp (disch := omega) only [lt_mid, cond_true, getI_mid, set_mid, Option.bind_some, w64_up]
    rw [show k + ((ck_Lie y : Nat) : Int) = k + 1 + 1 from by show k + ((1 + (1) : Nat) : Int) = _; omega]
    rfl
  · unfold f180_L1
    simp only [← hn, lt_f, cond_false, Option.map_some]
theorem f31_mark {x : List Int} {k : Int} (hx : (smL (fun _ => True)) x) (h0 : 0 ≤ k) (hb : k + ((csum (fun _ => 1) x : Nat) : Int) ≤ 4611686018427387904) : f31 x k = some (markAll mkI (fun _ => 1) x k, k + ((csum (fun _ => 1) x : Nat) : Int)) := by
  have hl := hx.1
  unfold f31
  refine mark_loop (F := f31_L1) (fun xs k i => (xs, k, i)) mkI (fun _ => 1) (fun _ => True) x.length (fun pre y post k hp h0 hb hn => ?_) (fun ys k hn => ?_) x [] k hx.2 h0 hb rfl
  · have hlen := len_mid hn
    have hb' : k + ((1 : Nat) : Int) ≤ 4611686018427387904 := hb
    unfold f31_L1
    simp (disch := omega) only [lt_mid, cond_true, getI_mid, set_mid, Option.bind_some, w64_up]
    rw [show k + (((fun _ => 1) y : Nat) : Int) = k + 1 from by show k + ((1 : Nat) : Int) = _; omega]
    rfl
  · unfold f31_L1
    simp only [← hn, lt_f, cond_false, Option.map_some]
theorem f113_mark {x : List Part} {k : Int} (hx : (smL (fun _ => True)) x) (h0 : 0 ≤ k) (hb : k + ((csum ck_Part x : Nat) : Int) ≤ 4611686018427387904) : f113 x k = some (markAll mk_Part ck_Part x k, k + ((csum ck_Part x : Nat) : Int)) := by
  have hl := hx.1
  unfold f113
  refine mark_loop (F := f113_L1) (fun xs k i => (xs, k, i)) mk_Part ck_Part (fun _ => True) x.length (fun pre y post k hp h0 hb hn => ?_) (fun ys k hn => ?_) x [] k hx.2 h0 hb rfl
  · have hlen := len_mid hn
    have hb' : k + ((1 + (1 + (1)) : Nat) : Int) ≤ 4611686018427387904 := hb
    unfold f113_L1
    simp (disch := omega) only [lt_mid, cond_true, getI_mid, set_mid, Option.bind_some, w64_up]
    rw [show k + ((ck_Part y : Nat) : Int) = k + 1 + 1 + 1 from by show k + ((1 + (1 + (1)) : Nat) : Int) = _; omega]
    rfl
  · unfold f113_L1
    simp only [← hn, lt_f, cond_false, Option.map_some]
theorem f181_mark {x : List Flank} {k : Int} (hx : (smL (fun _ => True)) x) (h0 : 0 ≤ k) (hb : k + ((csum ck_Flank x : Nat) : Int) ≤ 4611686018427387904) : f181 x k = some (markAll mk_Flank ck_Flank x k, k + ((csum ck_Flank x : Nat) : Int)) := by
  have hl := hx.1
  unfold f181
  refine mark_loop (F := f181_L1) (fun xs k i => (xs, k, i)) mk_Flank ck_Flank (fun _ => True) x.length (fun pre y post k hp h0 hb hn => ?_) (fun ys k hn => ?_) x [] k hx.2 h0 hb rfl
  · have hlen := len_mid hn
    have hb' : k + ((1 + (1 + (1 + (1))) : Nat) : Int) ≤ 4611686018427387904 := hb
    unfold f181_L1
    simp (disch := omega) only [lt_mid, cond_true, getI_mid, set_mid, Option.bind_some, w64_up]
    rw [show k + ((ck_Flank y : Nat) : Int) = k + 1 + 1 + 1 + 1 from by show k + ((1 + (1 + (1 + (1))) : Nat) : Int) = _; omega]
    rfl
  · unfold f181_L1
    simp only [← hn, lt_f, cond_false, Option.map_some]
theorem f66_mark {x : List Route} {k : Int} (hx : (smL smRoute) x) (h0 : 0 ≤ k) (hb : k + ((csum ck_Route x : Nat) : Int) ≤ 4611686018427387904) : f66 x k = some (markAll mk_Route ck_Route x k, k + ((csum ck_Route x : Nat) : Int)) := by
  have hl := hx.1
  unfold f66
  refine mark_loop (F := f66_L1) (fun xs k i => (xs, k, i)) mk_Route ck_Route smRoute x.length (fun pre y post k hp h0 hb hn => ?_) (fun ys k hn => ?_) x [] k hx.2 h0 hb rfl
  · have hlen := len_mid hn
    have hb' : k + ((1 + (1 + (csum ck_Step y.Steps + (csum ck_Lie y.Lies + (csum (fun _ => 1) y.Crosses + (csum ck_Part y.Parts + (csum ck_Part y.Over + (csum ck_Flank y.Flanks))))))) : Nat) : Int) ≤ 4611686018427387904 := hb
    unfold f66_L1
    simp (disch := omega) only [lt_mid, cond_true, getI_mid, set_mid, Option.bind_some, w64_up, f179_mark (x := y.Steps) hp.1, f180_mark (x := y.Lies) hp.2.1, f31_mark (x := y.Crosses) hp.2.2.1, f113_mark (x := y.Parts) hp.2.2.2.1, f113_mark (x := y.Over) hp.2.2.2.2.1, f181_mark (x := y.Flanks) hp.2.2.2.2.2]
    rw [show k + ((ck_Route y : Nat) : Int) = k + 1 + 1 + ((csum ck_Step y.Steps : Nat) : Int) + ((csum ck_Lie y.Lies : Nat) : Int) + ((csum (fun _ => 1) y.Crosses : Nat) : Int) + ((csum ck_Part y.Parts : Nat) : Int) + ((csum ck_Part y.Over : Nat) : Int) + ((csum ck_Flank y.Flanks : Nat) : Int) from by show k + ((1 + (1 + (csum ck_Step y.Steps + (csum ck_Lie y.Lies + (csum (fun _ => 1) y.Crosses + (csum ck_Part y.Parts + (csum ck_Part y.Over + (csum ck_Flank y.Flanks))))))) : Nat) : Int) = _; omega]
    rfl
  · unfold f66_L1
    simp only [← hn, lt_f, cond_false, Option.map_some]
theorem ck_Step_le (x : Step) (hx : (fun _ => True) x) : ck_Step x ≤ 2 := by
  unfold ck_Step
  omega
theorem ck_Lie_le (x : Lie) (hx : (fun _ => True) x) : ck_Lie x ≤ 2 := by
  unfold ck_Lie
  omega
theorem ck_Part_le (x : Part) (hx : (fun _ => True) x) : ck_Part x ≤ 3 := by
  unfold ck_Part
  omega
theorem ck_Flank_le (x : Flank) (hx : (fun _ => True) x) : ck_Flank x ≤ 4 := by
  unfold ck_Flank
  omega
theorem ck_Route_le (x : Route) (hx : smRoute x) : ck_Route x ≤ 15728642 := by
  unfold ck_Route
  have h0 := (fun _ hx => csum_bd (p := (fun _ => True)) ck_Step_le hx.1 hx.2) x.Steps hx.1
  have h1 := (fun _ hx => csum_bd (p := (fun _ => True)) ck_Lie_le hx.1 hx.2) x.Lies hx.2.1
  have h2 := (fun _ hx => csum_bd (p := (fun _ => True)) (fun _ _ => Nat.le_refl 1) hx.1 hx.2) x.Crosses hx.2.2.1
  have h3 := (fun _ hx => csum_bd (p := (fun _ => True)) ck_Part_le hx.1 hx.2) x.Parts hx.2.2.2.1
  have h4 := (fun _ hx => csum_bd (p := (fun _ => True)) ck_Part_le hx.1 hx.2) x.Over hx.2.2.2.2.1
  have h5 := (fun _ hx => csum_bd (p := (fun _ => True)) ck_Flank_le hx.1 hx.2) x.Flanks hx.2.2.2.2.2
  omega
theorem f67_mark {x : List (List Int)} {k : Int} (hx : (smL (smL (fun _ => True))) x) (h0 : 0 ≤ k) (hb : k + ((csum (csum (fun _ => 1)) x : Nat) : Int) ≤ 4611686018427387904) : f67 x k = some (markAll (markAll mkI (fun _ => 1)) (csum (fun _ => 1)) x k, k + ((csum (csum (fun _ => 1)) x : Nat) : Int)) := by
  have hl := hx.1
  unfold f67
  refine mark_loop (F := f67_L1) (fun xs k i => (xs, k, i)) (markAll mkI (fun _ => 1)) (csum (fun _ => 1)) (smL (fun _ => True)) x.length (fun pre y post k hp h0 hb hn => ?_) (fun ys k hn => ?_) x [] k hx.2 h0 hb rfl
  · have hlen := len_mid hn
    have hb' : k + ((csum (fun _ => 1) y : Nat) : Int) ≤ 4611686018427387904 := hb
    unfold f67_L1
    simp (disch := omega) only [lt_mid, cond_true, getI_mid, set_mid, Option.bind_some, w64_up, f31_mark (x := y) hp]
    rw [show k + (((csum (fun _ => 1)) y : Nat) : Int) = k + ((csum (fun _ => 1) y : Nat) : Int) from by show k + ((csum (fun _ => 1) y : Nat) : Int) = _; omega]
    rfl
  · unfold f67_L1
    simp only [← hn, lt_f, cond_false, Option.map_some]
theorem f32_held {x : List Int} {k : Int} (hx : (smL (fun _ => True)) x) (h0 : 0 ≤ k) (hb : k + ((csum (fun _ => 1) x : Nat) : Int) ≤ 4611686018427387904) : f32 (markAll mkI (fun _ => 1) x k) k = some (k + ((csum (fun _ => 1) x : Nat) : Int)) := by
  have hl := hx.1
  unfold f32
  refine held_loop (F := f32_L1 (markAll mkI (fun _ => 1) x k)) (fun k i => (k, i)) mkI (fun _ => 1) (fun _ => True) (markAll mkI (fun _ => 1) x k) (fun i y k hp h0 hb hy => ?_) (fun k2 => ?_) x [] k rfl hx.2 h0 hb
  · have hlen := get_lt hy
    have hlt := lt_t hlen
    rw [markAll_len] at hlen
    have hb' : k + ((1 : Nat) : Int) ≤ 4611686018427387904 := hb
    unfold f32_L1
    simp (disch := omega) only [hlt, cond_true, getI_nat, hy, Option.bind_some, mkI, bne_self_eq_false, beq_self_eq_true, Bool.not_true, cond_false, w64_up, ltz]
    rw [show k + (((fun _ => 1) y : Nat) : Int) = k + 1 from by show k + ((1 : Nat) : Int) = _; omega]
    rfl
  · unfold f32_L1
    simp only [lt_f, cond_false, Option.map_some]
theorem f68_held {x : List (List Int)} {k : Int} (hx : (smL (smL (fun _ => True))) x) (h0 : 0 ≤ k) (hb : k + ((csum (csum (fun _ => 1)) x : Nat) : Int) ≤ 4611686018427387904) : f68 (markAll (markAll mkI (fun _ => 1)) (csum (fun _ => 1)) x k) k = some (k + ((csum (csum (fun _ => 1)) x : Nat) : Int)) := by
  have hl := hx.1
  unfold f68
  refine held_loop (F := f68_L1 (markAll (markAll mkI (fun _ => 1)) (csum (fun _ => 1)) x k)) (fun k i => (k, i)) (markAll mkI (fun _ => 1)) (csum (fun _ => 1)) (smL (fun _ => True)) (markAll (markAll mkI (fun _ => 1)) (csum (fun _ => 1)) x k) (fun i y k hp h0 hb hy => ?_) (fun k2 => ?_) x [] k rfl hx.2 h0 hb
  · have hlen := get_lt hy
    have hlt := lt_t hlen
    rw [markAll_len] at hlen
    have hb' : k + ((csum (fun _ => 1) y : Nat) : Int) ≤ 4611686018427387904 := hb
    unfold f68_L1
    simp (disch := omega) only [hlt, cond_true, getI_nat, hy, Option.bind_some, bne_self_eq_false, beq_self_eq_true, Bool.not_true, cond_false, w64_up, ltz, f32_held (x := y) hp]
    rw [show k + (((csum (fun _ => 1)) y : Nat) : Int) = k + ((csum (fun _ => 1) y : Nat) : Int) from by show k + ((csum (fun _ => 1) y : Nat) : Int) = _; omega]
    rfl
  · unfold f68_L1
    simp only [lt_f, cond_false, Option.map_some]
theorem law10 (aARoutes0 : List Route) (haARoutes0 : (fitsL fitRoute) aARoutes0) : f10 aARoutes0 = some true := by
  unfold f10
  obtain ⟨v0, e0, a0, b0⟩ := f60_sz (x := aARoutes0) (left := 1048576) (by omega) (by omega) haARoutes0
  rw [e0, Option.bind_some]
  rcases Bool.eq_false_or_eq_true (decide (v0 < (0 : Int))) with hb0 | hb0
  · rw [hb0]; rfl
  rw [hb0, cond_false]; simp only [decide_eq_false_iff_not] at hb0
  have saARoutes0 := b0.resolve_left hb0
  obtain ⟨r, m1, m2, m3⟩ := main10 haARoutes0 saARoutes0
  have u0 : (csum ck_Route) aARoutes0 ≤ 16492676513792 := by
    have h := (fun _ hx => csum_bd (p := smRoute) ck_Route_le hx.1 hx.2) aARoutes0 saARoutes0
    exact h
  have k0 := f66_mark (x := aARoutes0) (k := (1 : Int)) saARoutes0 (by omega) (by omega)
  have u1 : (csum (csum (fun _ => 1))) r ≤ 1099511627776 := by
    have h := (fun _ hx => csum_bd (p := (smL (fun _ => True))) (fun _ hx => csum_bd (p := (fun _ => True)) (fun _ _ => Nat.le_refl 1) hx.1 hx.2) hx.1 hx.2) r m3
    exact h
  have k1 := f67_mark (x := r) (k := (1 : Int)) m3 (by omega) (by omega)
  have j1 := f68_held (x := r) (k := (1 : Int)) m3 (by omega) (by omega)
  simp only [f62_to (x := aARoutes0) saARoutes0, f64_eq (x := r) m3, f65_eq (x := aARoutes0) saARoutes0, k0, ltz (show (0:Int) ≤ (1 : Int) + (((csum ck_Route) aARoutes0 : Nat) : Int) by omega), k1, ltz (show (0:Int) ≤ (1 : Int) + (((csum (csum (fun _ => 1))) r : Nat) : Int) by omega), j1, Option.bind_some, m1, m2, bne_self_eq_false, beq_self_eq_true, Bool.not_true, cond_false]

end
end Go.Proofs.Ytkfekjcahepfnaa.K
