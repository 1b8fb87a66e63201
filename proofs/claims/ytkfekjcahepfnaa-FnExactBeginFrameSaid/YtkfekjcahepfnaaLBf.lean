/-
  The plain part of the law FnExactBeginFrame: on typed values it returns true at every input. No conditions.
-/
import Derived.Test.YtkfekjcahepfnaaDBf
set_option linter.unusedVariables false
set_option linter.unusedSimpArgs false
set_option maxRecDepth 100000
namespace Go.Proofs.Ytkfekjcahepfnaa.K
noncomputable section
open Go.ChangeShapes Go.WideShapes Go.ChangeAt Go.RowKit
abbrev fitTurn (x : Turn) : Prop := fitsI x.Switch ∧ fitsI x.Lie
abbrev fitWay (x : Way) : Prop := (fitsL fitsI) x.Sections ∧ (fitsL fitTurn) x.Lies ∧ (fitsL fitTurn) x.Flanks ∧ (fitsL fitsI) x.Over ∧ (fitsL fitsI) x.Near
abbrev smWay (x : Way) : Prop := (smL (fun _ => True)) x.Sections ∧ (smL (fun _ => True)) x.Lies ∧ (smL (fun _ => True)) x.Flanks ∧ (smL (fun _ => True)) x.Over ∧ (smL (fun _ => True)) x.Near
abbrev fitPlan (x : Plan) : Prop := fitsI x.Sections ∧ (fitsL fitsI) x.Switches ∧ (fitsL fitWay) x.Ways ∧ (fitsL (fitsL (fun _ => True))) x.Bars ∧ fitsI x.Hold
abbrev smPlan (x : Plan) : Prop := (smL (fun _ => True)) x.Switches ∧ (smL smWay) x.Ways ∧ (smL (smL (fun _ => True))) x.Bars
abbrev fitPoint (x : Point) : Prop := fitsI x.Want ∧ fitsI x.Lies
abbrev fitHeld (x : Held) : Prop := fitsI x.State ∧ fitsI x.Gone ∧ (fitsL (fun _ => True)) x.Been ∧ (fun _ => True) x.Shown ∧ fitsI x.Timer
abbrev fitFrame (x : Frame) : Prop := (fun _ => True) x.Ok ∧ (fitsL (fun _ => True)) x.Occ ∧ (fitsL fitPoint) x.Points ∧ (fitsL fitHeld) x.Ways
abbrev smHeld (x : Held) : Prop := (smL (fun _ => True)) x.Been
abbrev smFrame (x : Frame) : Prop := (smL (fun _ => True)) x.Occ ∧ (smL (fun _ => True)) x.Points ∧ (smL smHeld) x.Ways
theorem rd3 : Reads Try.prog 3 Int fitsI := reads_int Try.underlying3
theorem rd26 : Reads Try.prog 26 (List Int) (fitsL fitsI) := reads_slice Try.underlying26 rfl rd3
theorem rd390 : Reads Try.prog 390 Turn fitTurn := by
  intro K enc W sp fuel cs d ps h
  obtain ⟨fu, hl, hf⟩ := trod_struct Try.underlying390 h
  have hl : cs.length = 2 := hl
  obtain ⟨_, _, h0⟩ := hf _ (List.Mem.head _)
  obtain ⟨x0, r0, g0⟩ := rd3 _ _ _ _ _ _ _ h0
  obtain ⟨_, _, h1⟩ := hf _ (List.Mem.tail _ (List.Mem.head _))
  obtain ⟨x1, r1, g1⟩ := rd3 _ _ _ _ _ _ _ h1
  exact ⟨⟨x0, x1⟩, fld (off := 0) (sz := 1) r0 (fldLast (sz := 1) hl r1), g0, g1⟩
theorem rd302 : Reads Try.prog 302 (List Turn) (fitsL fitTurn) := reads_slice Try.underlying302 rfl rd390
theorem rd304 : Reads Try.prog 304 Way fitWay := by
  intro K enc W sp fuel cs d ps h
  obtain ⟨fu, hl, hf⟩ := trod_struct Try.underlying304 h
  have hl : cs.length = 5 := hl
  obtain ⟨_, _, h0⟩ := hf _ (List.Mem.head _)
  obtain ⟨x0, r0, g0⟩ := rd26 _ _ _ _ _ _ _ h0
  obtain ⟨_, _, h1⟩ := hf _ (List.Mem.tail _ (List.Mem.head _))
  obtain ⟨x1, r1, g1⟩ := rd302 _ _ _ _ _ _ _ h1
  obtain ⟨_, _, h2⟩ := hf _ (List.Mem.tail _ (List.Mem.tail _ (List.Mem.head _)))
  obtain ⟨x2, r2, g2⟩ := rd302 _ _ _ _ _ _ _ h2
  obtain ⟨_, _, h3⟩ := hf _ (List.Mem.tail _ (List.Mem.tail _ (List.Mem.tail _ (List.Mem.head _))))
  obtain ⟨x3, r3, g3⟩ := rd26 _ _ _ _ _ _ _ h3
  obtain ⟨_, _, h4⟩ := hf _ (List.Mem.tail _ (List.Mem.tail _ (List.Mem.tail _ (List.Mem.tail _ (List.Mem.head _)))))
  obtain ⟨x4, r4, g4⟩ := rd26 _ _ _ _ _ _ _ h4
  exact ⟨⟨x0, x1, x2, x3, x4⟩, fld (off := 0) (sz := 1) r0 (fld (off := 1) (sz := 1) r1 (fld (off := 2) (sz := 1) r2 (fld (off := 3) (sz := 1) r3 (fldLast (sz := 1) hl r4)))), g0, g1, g2, g3, g4⟩
theorem rd72 : Reads Try.prog 72 (List Way) (fitsL fitWay) := reads_slice Try.underlying72 rfl rd304
theorem rd4 : Reads Try.prog 4 Bool (fun _ => True) := reads_bool Try.underlying4
theorem rd38 : Reads Try.prog 38 (List Bool) (fitsL (fun _ => True)) := reads_slice Try.underlying38 rfl rd4
theorem rd45 : Reads Try.prog 45 (List (List Bool)) (fitsL (fitsL (fun _ => True))) := reads_slice Try.underlying45 rfl rd38
theorem rd74 : Reads Try.prog 74 Plan fitPlan := by
  intro K enc W sp fuel cs d ps h
  obtain ⟨fu, hl, hf⟩ := trod_struct Try.underlying74 h
  have hl : cs.length = 5 := hl
  obtain ⟨_, _, h0⟩ := hf _ (List.Mem.head _)
  obtain ⟨x0, r0, g0⟩ := rd3 _ _ _ _ _ _ _ h0
  obtain ⟨_, _, h1⟩ := hf _ (List.Mem.tail _ (List.Mem.head _))
  obtain ⟨x1, r1, g1⟩ := rd26 _ _ _ _ _ _ _ h1
  obtain ⟨_, _, h2⟩ := hf _ (List.Mem.tail _ (List.Mem.tail _ (List.Mem.head _)))
  obtain ⟨x2, r2, g2⟩ := rd72 _ _ _ _ _ _ _ h2
  obtain ⟨_, _, h3⟩ := hf _ (List.Mem.tail _ (List.Mem.tail _ (List.Mem.tail _ (List.Mem.head _))))
  obtain ⟨x3, r3, g3⟩ := rd45 _ _ _ _ _ _ _ h3
  obtain ⟨_, _, h4⟩ := hf _ (List.Mem.tail _ (List.Mem.tail _ (List.Mem.tail _ (List.Mem.tail _ (List.Mem.head _)))))
  obtain ⟨x4, r4, g4⟩ := rd3 _ _ _ _ _ _ _ h4
  exact ⟨⟨x0, x1, x2, x3, x4⟩, fld (off := 0) (sz := 1) r0 (fld (off := 1) (sz := 1) r1 (fld (off := 2) (sz := 1) r2 (fld (off := 3) (sz := 1) r3 (fldLast (sz := 1) hl r4)))), g0, g1, g2, g3, g4⟩
theorem f138_sz {x : List Int} {left : Int} (h0 : 0 ≤ left) (h1 : left ≤ 1048576) (hx : (fitsL fitsI) x) : ∃ v, f138 x left = some v ∧ v ≤ left ∧ (v < 0 ∨ (smL (fun _ => True)) x) := by
  unfold f138
  obtain ⟨v, e1, e2, e3⟩ := sz_flat (xs := x) h0 h1 hx.1
  exact ⟨v, e1, e2, e3.imp id fun h => ⟨h.1, fun _ _ => trivial⟩⟩
theorem f324_sz {x : List Turn} {left : Int} (h0 : 0 ≤ left) (h1 : left ≤ 1048576) (hx : (fitsL fitTurn) x) : ∃ v, f324 x left = some v ∧ v ≤ left ∧ (v < 0 ∨ (smL (fun _ => True)) x) := by
  unfold f324
  obtain ⟨v, e1, e2, e3⟩ := sz_flat (xs := x) h0 h1 hx.1
  exact ⟨v, e1, e2, e3.imp id fun h => ⟨h.1, fun _ _ => trivial⟩⟩
theorem f266_sz {x : Way} {left : Int} (h0 : 0 ≤ left) (h1 : left ≤ 1048576) (hx : fitWay x) : ∃ v, f266 x left = some v ∧ v ≤ left ∧ (v < 0 ∨ smWay x) := by
  unfold f266
  obtain ⟨v0, e0, a0, b0⟩ := f138_sz (x := x.Sections) (left := left) (by omega) (by omega) hx.1
  rw [e0, Option.bind_some]
  rcases Bool.eq_false_or_eq_true (decide (v0 < (0 : Int))) with hb0 | hb0
  · rw [hb0]; exact ⟨_, rfl, by omega, .inl (by decide)⟩
  rw [hb0, cond_false]; simp only [decide_eq_false_iff_not] at hb0
  obtain ⟨v1, e1, a1, b1⟩ := f324_sz (x := x.Lies) (left := v0) (by omega) (by omega) hx.2.1
  rw [e1, Option.bind_some]
  rcases Bool.eq_false_or_eq_true (decide (v1 < (0 : Int))) with hb1 | hb1
  · rw [hb1]; exact ⟨_, rfl, by omega, .inl (by decide)⟩
  rw [hb1, cond_false]; simp only [decide_eq_false_iff_not] at hb1
  obtain ⟨v2, e2, a2, b2⟩ := f324_sz (x := x.Flanks) (left := v1) (by omega) (by omega) hx.2.2.1
  rw [e2, Option.bind_some]
  rcases Bool.eq_false_or_eq_true (decide (v2 < (0 : Int))) with hb2 | hb2
  · rw [hb2]; exact ⟨_, rfl, by omega, .inl (by decide)⟩
  rw [hb2, cond_false]; simp only [decide_eq_false_iff_not] at hb2
  obtain ⟨v3, e3, a3, b3⟩ := f138_sz (x := x.Over) (left := v2) (by omega) (by omega) hx.2.2.2.1
  rw [e3, Option.bind_some]
  rcases Bool.eq_false_or_eq_true (decide (v3 < (0 : Int))) with hb3 | hb3
  · rw [hb3]; exact ⟨_, rfl, by omega, .inl (by decide)⟩
  rw [hb3, cond_false]; simp only [decide_eq_false_iff_not] at hb3
  obtain ⟨v4, e4, a4, b4⟩ := f138_sz (x := x.Near) (left := v3) (by omega) (by omega) hx.2.2.2.2
  rw [e4, Option.bind_some]
  rcases Bool.eq_false_or_eq_true (decide (v4 < (0 : Int))) with hb4 | hb4
  · rw [hb4]; exact ⟨_, rfl, by omega, .inl (by decide)⟩
  rw [hb4, cond_false]; simp only [decide_eq_false_iff_not] at hb4
  exact ⟨_, rfl, by omega, .inr ⟨b0.resolve_left hb0, b1.resolve_left hb1, b2.resolve_left hb2, b3.resolve_left hb3, b4.resolve_left hb4⟩⟩
theorem f166_sz {x : List Way} {left : Int} (h0 : 0 ≤ left) (h1 : left ≤ 1048576) (hx : (fitsL fitWay) x) : ∃ v, f166 x left = some v ∧ v ≤ left ∧ (v < 0 ∨ (smL smWay) x) := by
  unfold f166
  refine sz_deep (g := f266) (fit := fitWay) (sm := smWay) (fun x l a b c => f266_sz b c a) (fun l i x hi => ?_) (fun l => ?_) h0 h1 hx
  · unfold f166_L1
    simp only [lt_t (get_lt hi), cond_true, getI_nat, hi, Option.bind_some, Option.map_some]
  · unfold f166_L1
    simp only [lt_f, cond_false, Option.map_some]
theorem f139_sz {x : List Bool} {left : Int} (h0 : 0 ≤ left) (h1 : left ≤ 1048576) (hx : (fitsL (fun _ => True)) x) : ∃ v, f139 x left = some v ∧ v ≤ left ∧ (v < 0 ∨ (smL (fun _ => True)) x) := by
  unfold f139
  obtain ⟨v, e1, e2, e3⟩ := sz_flat (xs := x) h0 h1 hx.1
  exact ⟨v, e1, e2, e3.imp id fun h => ⟨h.1, fun _ _ => trivial⟩⟩
theorem f140_sz {x : List (List Bool)} {left : Int} (h0 : 0 ≤ left) (h1 : left ≤ 1048576) (hx : (fitsL (fitsL (fun _ => True))) x) : ∃ v, f140 x left = some v ∧ v ≤ left ∧ (v < 0 ∨ (smL (smL (fun _ => True))) x) := by
  unfold f140
  refine sz_deep (g := f139) (fit := (fitsL (fun _ => True))) (sm := (smL (fun _ => True))) (fun x l a b c => f139_sz b c a) (fun l i x hi => ?_) (fun l => ?_) h0 h1 hx
  · unfold f140_L1
    simp only [lt_t (get_lt hi), cond_true, getI_nat, hi, Option.bind_some, Option.map_some]
  · unfold f140_L1
    simp only [lt_f, cond_false, Option.map_some]
theorem f51_sz {x : Plan} {left : Int} (h0 : 0 ≤ left) (h1 : left ≤ 1048576) (hx : fitPlan x) : ∃ v, f51 x left = some v ∧ v ≤ left ∧ (v < 0 ∨ smPlan x) := by
  unfold f51
  obtain ⟨v0, e0, a0, b0⟩ := f138_sz (x := x.Switches) (left := left) (by omega) (by omega) hx.2.1
  rw [e0, Option.bind_some]
  rcases Bool.eq_false_or_eq_true (decide (v0 < (0 : Int))) with hb0 | hb0
  · rw [hb0]; exact ⟨_, rfl, by omega, .inl (by decide)⟩
  rw [hb0, cond_false]; simp only [decide_eq_false_iff_not] at hb0
  obtain ⟨v1, e1, a1, b1⟩ := f166_sz (x := x.Ways) (left := v0) (by omega) (by omega) hx.2.2.1
  rw [e1, Option.bind_some]
  rcases Bool.eq_false_or_eq_true (decide (v1 < (0 : Int))) with hb1 | hb1
  · rw [hb1]; exact ⟨_, rfl, by omega, .inl (by decide)⟩
  rw [hb1, cond_false]; simp only [decide_eq_false_iff_not] at hb1
  obtain ⟨v2, e2, a2, b2⟩ := f140_sz (x := x.Bars) (left := v1) (by omega) (by omega) hx.2.2.2.1
  rw [e2, Option.bind_some]
  rcases Bool.eq_false_or_eq_true (decide (v2 < (0 : Int))) with hb2 | hb2
  · rw [hb2]; exact ⟨_, rfl, by omega, .inl (by decide)⟩
  rw [hb2, cond_false]; simp only [decide_eq_false_iff_not] at hb2
  exact ⟨_, rfl, by omega, .inr ⟨b0.resolve_left hb0, b1.resolve_left hb1, b2.resolve_left hb2⟩⟩
theorem f97_to {x : List Int} (hx : (smL (fun _ => True)) x) : f97 x = some x := by
  have hl := hx.1
  unfold f97
  rw [makeB_ok (by omega), Option.bind_some]
  have := fill x (fun y => y) (0 : Int) (F := f97_L1 x) (fun ys i y hi hy => ?_) (fun ys => ?_)
  · rw [List.map_id'] at this; exact this
  · have hlt := get_lt hi
    unfold f97_L1
    simp only [lt_t (get_lt hi), cond_true, getI_nat, hi, Option.bind_some]
    rw [List.getElem?_eq_getElem (by omega), Option.bind_some, w64_nat (by omega)]
    rfl
  · unfold f97_L1
    simp only [lt_f, cond_false, Option.map_some]
theorem f350_to {x : Turn} (hx : (fun _ => True) x) : f350 x = some x := by
  unfold f350
  rfl
theorem f325_to {x : List Turn} (hx : (smL (fun _ => True)) x) : f325 x = some x := by
  have hl := hx.1
  unfold f325
  rw [makeB_ok (by omega), Option.bind_some]
  have := fill x (fun y => y) (⟨0, 0⟩ : Turn) (F := f325_L1 x) (fun ys i y hi hy => ?_) (fun ys => ?_)
  · rw [List.map_id'] at this; exact this
  · have hlt := get_lt hi
    unfold f325_L1
    have hg := f350_to (x := y) (hx.2 _ (List.mem_of_getElem? hi))
    simp only [lt_t (get_lt hi), cond_true, getI_nat, hi, Option.bind_some, hg]
    rw [List.getElem?_eq_getElem (by omega), Option.bind_some, w64_nat (by omega)]
    rfl
  · unfold f325_L1
    simp only [lt_f, cond_false, Option.map_some]
theorem f269_to {x : Way} (hx : smWay x) : f269 x = some x := by
  unfold f269
  rw [f97_to (x := x.Sections) hx.1, f325_to (x := x.Lies) hx.2.1, f325_to (x := x.Flanks) hx.2.2.1, f97_to (x := x.Over) hx.2.2.2.1, f97_to (x := x.Near) hx.2.2.2.2]
  rfl
theorem f170_to {x : List Way} (hx : (smL smWay) x) : f170 x = some x := by
  have hl := hx.1
  unfold f170
  rw [makeB_ok (by omega), Option.bind_some]
  have := fill x (fun y => y) (⟨[], [], [], [], []⟩ : Way) (F := f170_L1 x) (fun ys i y hi hy => ?_) (fun ys => ?_)
  · rw [List.map_id'] at this; exact this
  · have hlt := get_lt hi
    unfold f170_L1
    have hg := f269_to (x := y) (hx.2 _ (List.mem_of_getElem? hi))
    simp only [lt_t (get_lt hi), cond_true, getI_nat, hi, Option.bind_some, hg]
    rw [List.getElem?_eq_getElem (by omega), Option.bind_some, w64_nat (by omega)]
    rfl
  · unfold f170_L1
    simp only [lt_f, cond_false, Option.map_some]
theorem f143_to {x : List Bool} (hx : (smL (fun _ => True)) x) : f143 x = some x := by
  have hl := hx.1
  unfold f143
  rw [makeB_ok (by omega), Option.bind_some]
  have := fill x (fun y => y) (false : Bool) (F := f143_L1 x) (fun ys i y hi hy => ?_) (fun ys => ?_)
  · rw [List.map_id'] at this; exact this
  · have hlt := get_lt hi
    unfold f143_L1
    simp only [lt_t (get_lt hi), cond_true, getI_nat, hi, Option.bind_some]
    rw [List.getElem?_eq_getElem (by omega), Option.bind_some, w64_nat (by omega)]
    rfl
  · unfold f143_L1
    simp only [lt_f, cond_false, Option.map_some]
theorem f144_to {x : List (List Bool)} (hx : (smL (smL (fun _ => True))) x) : f144 x = some x := by
  have hl := hx.1
  unfold f144
  rw [makeB_ok (by omega), Option.bind_some]
  have := fill x (fun y => y) ([] : List Bool) (F := f144_L1 x) (fun ys i y hi hy => ?_) (fun ys => ?_)
  · rw [List.map_id'] at this; exact this
  · have hlt := get_lt hi
    unfold f144_L1
    have hg := f143_to (x := y) (hx.2 _ (List.mem_of_getElem? hi))
    simp only [lt_t (get_lt hi), cond_true, getI_nat, hi, Option.bind_some, hg]
    rw [List.getElem?_eq_getElem (by omega), Option.bind_some, w64_nat (by omega)]
    rfl
  · unfold f144_L1
    simp only [lt_f, cond_false, Option.map_some]
theorem f53_to {x : Plan} (hx : smPlan x) : f53 x = some x := by
  unfold f53
  rw [f97_to (x := x.Switches) hx.1, f170_to (x := x.Ways) hx.2.1, f144_to (x := x.Bars) hx.2.2]
  rfl
theorem f28_eq {x : List Int} (hx : (smL (fun _ => True)) x) : f28 x x = some true := by
  unfold f28
  simp only [bne_self_eq_false, cond_false]
  refine eq_all (F := f28_L1 x x) hx.1 (fun i y hi => ?_) ?_
  · unfold f28_L1
    simp only [lt_t (get_lt hi), cond_true, getI_nat, hi, Option.bind_some, bne_self_eq_false, beq_self_eq_true, Bool.not_true, cond_false]
  · unfold f28_L1
    simp only [lt_f, cond_false, Option.map_some]
theorem f351_eq {x : Turn} (hx : (fun _ => True) x) : f351 x x = some true := by
  unfold f351
  simp only [bne_self_eq_false, beq_self_eq_true, Bool.not_true, cond_false]
theorem f327_eq {x : List Turn} (hx : (smL (fun _ => True)) x) : f327 x x = some true := by
  unfold f327
  simp only [bne_self_eq_false, cond_false]
  refine eq_all (F := f327_L1 x x) hx.1 (fun i y hi => ?_) ?_
  · unfold f327_L1
    have hg := f351_eq (x := y) (hx.2 _ (List.mem_of_getElem? hi))
    simp only [lt_t (get_lt hi), cond_true, getI_nat, hi, Option.bind_some, hg, Bool.not_true, cond_false]
  · unfold f327_L1
    simp only [lt_f, cond_false, Option.map_some]
theorem f274_eq {x : Way} (hx : smWay x) : f274 x x = some true := by
  unfold f274
  simp only [bne_self_eq_false, beq_self_eq_true, Bool.not_true, cond_false, f28_eq (x := x.Sections) hx.1, f327_eq (x := x.Lies) hx.2.1, f327_eq (x := x.Flanks) hx.2.2.1, f28_eq (x := x.Over) hx.2.2.2.1, f28_eq (x := x.Near) hx.2.2.2.2, Option.bind_some]
theorem f174_eq {x : List Way} (hx : (smL smWay) x) : f174 x x = some true := by
  unfold f174
  simp only [bne_self_eq_false, cond_false]
  refine eq_all (F := f174_L1 x x) hx.1 (fun i y hi => ?_) ?_
  · unfold f174_L1
    have hg := f274_eq (x := y) (hx.2 _ (List.mem_of_getElem? hi))
    simp only [lt_t (get_lt hi), cond_true, getI_nat, hi, Option.bind_some, hg, Bool.not_true, cond_false]
  · unfold f174_L1
    simp only [lt_f, cond_false, Option.map_some]
theorem f133_eq {x : List Bool} (hx : (smL (fun _ => True)) x) : f133 x x = some true := by
  unfold f133
  simp only [bne_self_eq_false, cond_false]
  refine eq_all (F := f133_L1 x x) hx.1 (fun i y hi => ?_) ?_
  · unfold f133_L1
    simp only [lt_t (get_lt hi), cond_true, getI_nat, hi, Option.bind_some, bne_self_eq_false, beq_self_eq_true, Bool.not_true, cond_false]
  · unfold f133_L1
    simp only [lt_f, cond_false, Option.map_some]
theorem f148_eq {x : List (List Bool)} (hx : (smL (smL (fun _ => True))) x) : f148 x x = some true := by
  unfold f148
  simp only [bne_self_eq_false, cond_false]
  refine eq_all (F := f148_L1 x x) hx.1 (fun i y hi => ?_) ?_
  · unfold f148_L1
    have hg := f133_eq (x := y) (hx.2 _ (List.mem_of_getElem? hi))
    simp only [lt_t (get_lt hi), cond_true, getI_nat, hi, Option.bind_some, hg, Bool.not_true, cond_false]
  · unfold f148_L1
    simp only [lt_f, cond_false, Option.map_some]
theorem f56_eq {x : Plan} (hx : smPlan x) : f56 x x = some true := by
  unfold f56
  simp only [bne_self_eq_false, beq_self_eq_true, Bool.not_true, cond_false, f28_eq (x := x.Switches) hx.1, f174_eq (x := x.Ways) hx.2.1, f148_eq (x := x.Bars) hx.2.2, Option.bind_some]
theorem f299_eq {x : Point} (hx : (fun _ => True) x) : f299 x x = some true := by
  unfold f299
  simp only [bne_self_eq_false, beq_self_eq_true, Bool.not_true, cond_false]
theorem f209_eq {x : List Point} (hx : (smL (fun _ => True)) x) : f209 x x = some true := by
  unfold f209
  simp only [bne_self_eq_false, cond_false]
  refine eq_all (F := f209_L1 x x) hx.1 (fun i y hi => ?_) ?_
  · unfold f209_L1
    have hg := f299_eq (x := y) (hx.2 _ (List.mem_of_getElem? hi))
    simp only [lt_t (get_lt hi), cond_true, getI_nat, hi, Option.bind_some, hg, Bool.not_true, cond_false]
  · unfold f209_L1
    simp only [lt_f, cond_false, Option.map_some]
theorem f300_eq {x : Held} (hx : smHeld x) : f300 x x = some true := by
  unfold f300
  simp only [bne_self_eq_false, beq_self_eq_true, Bool.not_true, cond_false, f133_eq (x := x.Been) hx, Option.bind_some]
theorem f210_eq {x : List Held} (hx : (smL smHeld) x) : f210 x x = some true := by
  unfold f210
  simp only [bne_self_eq_false, cond_false]
  refine eq_all (F := f210_L1 x x) hx.1 (fun i y hi => ?_) ?_
  · unfold f210_L1
    have hg := f300_eq (x := y) (hx.2 _ (List.mem_of_getElem? hi))
    simp only [lt_t (get_lt hi), cond_true, getI_nat, hi, Option.bind_some, hg, Bool.not_true, cond_false]
  · unfold f210_L1
    simp only [lt_f, cond_false, Option.map_some]
theorem f92_eq {x : Frame} (hx : smFrame x) : f92 x x = some true := by
  unfold f92
  simp only [bne_self_eq_false, beq_self_eq_true, Bool.not_true, cond_false, f133_eq (x := x.Occ) hx.1, f209_eq (x := x.Points) hx.2.1, f210_eq (x := x.Ways) hx.2.2, Option.bind_some]
theorem str_eq (a b : ByteArray) : (a.toList == b.toList) = decide (a = b) := by
  rw [Bool.eq_iff_iff, decide_eq_true_eq, ByteArray.toList_eq, ByteArray.toList_eq, beq_iff_eq]
  exact ⟨fun h => by cases a; cases b; simp only [Array.toList_inj] at h; rw [h], fun h => by rw [h]⟩
/-- The first place, if any, at which a search ends. -/
def firstO {ρ : Type} (n : Nat) (b : Nat → Option ρ) (e : Option ρ) : Option ρ := match (List.range n).findSome? b with | some r => some r | none => e
theorem firstO_none {ρ : Type} {n : Nat} {b : Nat → Option ρ} {e : Option ρ} (h : ∀ i, i < n → b i = none) : firstO n b e = e := by
  unfold firstO
  rw [List.findSome?_eq_none_iff.2 (fun x hx => h x (List.mem_range.1 hx))]
theorem firstO_some {ρ : Type} {n : Nat} {b : Nat → Option ρ} {e : Option ρ} {i : Nat} {r : ρ} (hi : i < n) (h : ∀ j, j < i → b j = none) (hr : b i = some r) : firstO n b e = some r := by
  unfold firstO
  have e1 : n = i + ((n - i - 1) + 1) := by omega
  have h0 : (List.range i).findSome? b = none := List.findSome?_eq_none_iff.2 fun x hx => h x (List.mem_range.1 hx)
  rw [e1, List.range_add, List.findSome?_append, h0, List.range_succ_eq_map]
  simp [hr]
/-- A search is: no place ends it, or a first one does. -/
theorem first_cases {ρ : Type} (n : Nat) (b : Nat → Option ρ) : (∀ i, i < n → b i = none) ∨ ∃ i r, i < n ∧ (∀ j, j < i → b j = none) ∧ b i = some r := by
  induction n with
  | zero => exact .inl (fun i hi => by omega)
  | succ n ih =>
    rcases ih with h | ⟨i, r, h1, h2, h3⟩
    · cases hb : b n with
      | none =>
        refine .inl (fun i hi => ?_)
        rcases Nat.lt_or_ge i n with hl | hl
        · exact h i hl
        · have : i = n := by omega
          subst this; exact hb
      | some r => exact .inr ⟨n, r, by omega, h, hb⟩
    · exact .inr ⟨i, r, by omega, h2, h3⟩
/-- A loop that searches. -/
theorem loop_find {σ ρ : Type} {F : σ → Option (σ ⊕ ρ)} (n : Nat) (st : Nat → σ) (b : Nat → Option ρ) (e : Option ρ) (h : ∀ i, i < n → (∀ j, j < i → b j = none) → F (st i) = some ((b i).elim (.inl (st (i + 1))) .inr)) (hend : (∀ j, j < n → b j = none) → F (st n) = e.map .inr) : loopO F (st 0) = firstO n b e := by
  have key : ∀ k i, i + k = n → (∀ j, j < i → b j = none) → loopO F (st i) = firstO n b e := by
    intro k
    induction k with
    | zero =>
      intro i hi hb
      have : i = n := by omega
      subst this
      rw [loopO_eq, hend hb, firstO_none hb]
      cases e <;> rfl
    | succ k ih =>
      intro i hi hb
      rw [loopO_eq, h i (by omega) hb]
      cases hr : b i with
      | some r => rw [firstO_some (by omega) hb hr]; rfl
      | none =>
        simp only [Option.bind_some, Option.elim]
        refine ih (i + 1) (by omega) (fun j hj => ?_)
        rcases Nat.lt_or_ge j i with hl | hl
        · exact hb j hl
        · have : j = i := by omega
          subst this; exact hr
  exact key n 0 (by omega) (fun j hj => by omega)
/-- A loop that gathers. -/
theorem loop_fold {α β ρ : Type} {F : β × Int → Option ((β × Int) ⊕ ρ)} (xs : List α) (g : β → α → β) (a0 : β) (e : β → Option ρ) (h : ∀ (a : β) (i : Nat) (x : α), xs[i]? = some x → F (a, (i : Int)) = some (.inl (g a x, ((i + 1 : Nat) : Int)))) (hend : ∀ a, F (a, (xs.length : Int)) = (e a).map .inr) : loopO F (a0, (0 : Int)) = e (xs.foldl g a0) := by
  have key : ∀ k i (a : β), i + k = xs.length → loopO F (a, (i : Int)) = e ((xs.drop i).foldl g a) := by
    intro k
    induction k with
    | zero =>
      intro i a hi
      have : i = xs.length := by omega
      subst this
      rw [loopO_eq, hend, List.drop_length, List.foldl_nil]
      cases e a <;> rfl
    | succ k ih =>
      intro i a hi
      have hlt : i < xs.length := by omega
      rw [loopO_eq, h a i _ (List.getElem?_eq_getElem hlt), List.drop_eq_getElem_cons hlt, List.foldl_cons]
      exact ih (i + 1) _ (by omega)
  have := key xs.length 0 a0 (by omega)
  simpa using this
section
variable {κ ν : Type} [DecidableEq κ]
theorem mfind_none {k : κ} : ∀ {m : List (κ × ν)} {i : Nat}, mfind k m i = none → ∀ j, mfind k m j = none
  | [], _, _, _ => rfl
  | e :: m, i, h, j => by
    unfold mfind at h ⊢
    split at h
    · cases h
    · rename_i hk; rw [if_neg hk]; exact mfind_none h (j + 1)
theorem mget_cons (k : κ) (e : κ × ν) (m : List (κ × ν)) (z : ν) : mget k (e :: m) z = if k = e.1 then e.2 else mget k m z := by
  by_cases hk : k = e.1
  · rw [if_pos hk]
    unfold mget mfind
    rw [if_pos hk]
  · rw [if_neg hk]
    unfold mget
    have h0 : mfind k (e :: m) 0 = mfind k m (0 + 1) := by rw [mfind, if_neg hk]
    rw [h0]
    have key : ∀ (m : List (κ × ν)) i j, (mfind k m i).map (·.2) = (mfind k m j).map (·.2) := by
      intro m
      induction m with
      | nil => intro i j; rfl
      | cons e m ih =>
        intro i j
        unfold mfind
        split
        · rfl
        · exact ih _ _
    have := key m (0 + 1) 0
    cases h1 : mfind k m (0 + 1) <;> cases h2 : mfind k m 0 <;> rw [h1, h2] at this <;> simp_all
theorem mget_append (k k' : κ) (v : ν) (z : ν) : ∀ (m : List (κ × ν)), mfind k' m 0 = none → mget k (m ++ [(k', v)]) z = if k = k' then v else mget k m z
  | [], _ => by rw [List.nil_append, mget_cons]
  | e :: m, h => by
    have h' : k' ≠ e.1 ∧ mfind k' m 0 = none := by
      unfold mfind at h
      split at h
      · cases h
      · rename_i hk; exact ⟨hk, mfind_none h 0⟩
    rw [List.cons_append, mget_cons, mget_append k k' v z m h'.2, mget_cons]
    by_cases h1 : k = e.1
    · rw [if_pos h1, if_pos h1, if_neg (fun (h2 : k = k') => h'.1 (h2 ▸ h1))]
    · rw [if_neg h1, if_neg h1]
theorem mget_setAt (k k' : κ) (v : ν) (z : ν) : ∀ (m : List (κ × ν)) (n i : Nat) (x : ν), mfind k' m n = some (n + i, x) → mget k (m.set i (k', v)) z = if k = k' then v else mget k m z
  | [], _, _, _, h => by cases h
  | e :: m, n, i, x, h => by
    unfold mfind at h
    split at h
    · rename_i hk
      simp only [Option.some.injEq, Prod.mk.injEq] at h
      have : i = 0 := by omega
      subst this
      rw [List.set_cons_zero, mget_cons, mget_cons, hk]
      by_cases h1 : k = e.1
      · rw [if_pos h1, if_pos h1]
      · rw [if_neg h1, if_neg h1, if_neg h1]
    · rename_i hk
      have hi := (mfind_get h).1
      simp only [] at hi
      obtain ⟨i', rfl⟩ : ∃ i', i = i' + 1 := ⟨i - 1, by omega⟩
      rw [List.set_cons_succ, mget_cons, mget_setAt k k' v z m (n + 1) i' x (by rw [h]; congr 2; omega), mget_cons]
      by_cases h1 : k = e.1
      · rw [if_pos h1, if_pos h1, if_neg (fun (h2 : k = k') => hk (h2 ▸ h1))]
      · rw [if_neg h1, if_neg h1]
theorem mget_mset (k k' : κ) (v z : ν) (m : List (κ × ν)) : mget k (mset k' v m) z = if k = k' then v else mget k m z := by
  unfold mset
  cases h : mfind k' m 0 with
  | none => exact mget_append k k' v z m h
  | some x =>
    obtain ⟨i, y⟩ := x
    exact mget_setAt k k' v z m 0 i y (by rw [h, Nat.zero_add])
/-- What has been set under keys of a list. -/
theorem mget_keys {α : Type} (p : α → Bool) (f : α → κ) (xs : List α) (k : κ) : mget k (xs.foldl (fun m x => bif p x then mset (f x) true m else m) []) false = xs.any fun x => p x && decide (f x = k) := by
  have key : ∀ (xs : List α) (m : List (κ × Bool)), mget k (xs.foldl (fun m x => bif p x then mset (f x) true m else m) m) false = (mget k m false || xs.any fun x => p x && decide (f x = k)) := by
    intro xs
    induction xs with
    | nil => intro m; simp
    | cons x xs ih =>
      intro m
      rw [List.foldl_cons, ih, List.any_cons]
      cases hp : p x with
      | false => simp
      | true =>
        rw [cond_true, mget_mset]
        by_cases hk : k = f x
        · rw [if_pos hk]; simp [hk]
        · rw [if_neg hk]
          have : decide (f x = k) = false := decide_eq_false (fun h => hk h.symm)
          simp [this]
  rw [key]
  rfl
end
theorem firstO_any {ρ : Type} (n : Nat) (p : Nat → Bool) (r : ρ) (e : Option ρ) : firstO n (fun i => bif p i then some r else none) e = bif (List.range n).any p then some r else e := by
  rcases first_cases n (fun i => bif p i then some r else none) with h | ⟨i, r', hi, hj, hr⟩
  · rw [firstO_none h]
    have : (List.range n).any p = false := by
      rw [List.any_eq_false]
      intro x hx
      have := h x (List.mem_range.1 hx)
      cases hp : p x <;> simp_all
    rw [this]; rfl
  · rw [firstO_some hi hj hr]
    have hp : p i = true := by cases hp : p i <;> simp_all
    have : (List.range n).any p = true := List.any_eq_true.2 ⟨i, List.mem_range.2 hi, hp⟩
    rw [this]
    simp_all
theorem firstO_all (n : Nat) (p : Nat → Bool) (e : Bool) : firstO n (fun i => bif p i then none else some false) (some e) = some ((List.range n).all p && e) := by
  have : (fun i => bif p i then (none : Option Bool) else some false) = fun i => bif !p i then some false else none := by funext i; cases p i <;> rfl
  rw [this, firstO_any]
  have : ((List.range n).any fun i => !p i) = !((List.range n).all p) := by rw [List.not_all_eq_any_not]
  rw [this]
  cases (List.range n).all p <;> rfl
theorem firstO_is {ρ : Type} (n : Nat) (b : Nat → Option ρ) {e : Option ρ} (h : ∃ r, e = some r) : ∃ r, firstO n b e = some r := by
  unfold firstO
  split
  · exact ⟨_, rfl⟩
  · exact h
theorem firstO_congr {ρ : Type} {n : Nat} {b b' : Nat → Option ρ} {e e' : Option ρ} (h : ∀ i, i < n → b i = b' i) (he : (∀ i, i < n → b i = none) → e = e') : firstO n b e = firstO n b' e' := by
  rcases first_cases n b with h1 | ⟨i, r, hi, hj, hr⟩
  · rw [firstO_none h1, firstO_none (fun i hi => by rw [← h i hi]; exact h1 i hi)]; exact he h1
  · rw [firstO_some hi hj hr, firstO_some hi (fun j hl => by rw [← h j (by omega)]; exact hj j hl) (by rw [← h i hi]; exact hr)]
theorem cond_some {α : Type} (b : Bool) (x y : α) : (bif b then some x else some y) = some (bif b then x else y) := by cases b <;> rfl
theorem range_any_take {α : Type} (xs : List α) (g : α → Bool) : ∀ i, ((List.range i).any fun j => (xs[j]?).any g) = (xs.take i).any g
  | 0 => by simp
  | i + 1 => by
    rw [List.range_succ, List.any_append, range_any_take xs g i, List.take_add_one, List.any_append, List.any_cons, List.any_nil, Bool.or_false]
    cases xs[i]? <;> simp [Option.any]
theorem foldl_take {α β : Type} (g : β → α → β) (a : β) {xs : List α} {i : Nat} {x : α} (h : xs[i]? = some x) : (xs.take (i + 1)).foldl g a = g ((xs.take i).foldl g a) x := by
  rw [List.take_add_one, List.foldl_append, h]; rfl
theorem byteAt_ok {s : ByteArray} {i : Nat} (h : i < s.size) : byteAt s (i : Int) = some ((byteAt s (i : Int)).getD 0) := by
  unfold byteAt
  rw [if_pos (by omega), Int.toNat_natCast, getElem?_pos s i h]
  rfl
theorem loopO_elim {σ ρ : Type} (F : σ → Option (σ ⊕ ρ)) (s : σ) : loopO F s = (F s).bind (Sum.elim (loopO F) some) := by
  rw [loopO_eq]
  congr 1
  funext x
  cases x <;> rfl
theorem firstO_step {σ ρ : Type} (n : Nat) (b : Nat → Option ρ) (s : σ) (k : σ → Option ρ) : ((firstO n (fun i => (b i).map Sum.inr) (some (.inl s))).bind (Sum.elim k some)) = firstO n b (k s) := by
  rcases first_cases n b with h | ⟨i, r, hi, hj, hr⟩
  · rw [firstO_none h, firstO_none (fun i hi => by rw [h i hi]; rfl)]; rfl
  · rw [firstO_some hi hj hr, firstO_some (r := .inr r) hi (fun j hl => by rw [hj j hl]; rfl) (by rw [hr]; rfl)]; rfl
theorem mget_counts {κ : Type} [DecidableEq κ] (xs : List κ) (k : κ) : mget k (xs.foldl (fun m x => mset x (w64 (mget x m 0 + 1)) m) []) 0 = xs.foldl (fun a x => bif decide (x = k) then w64 (a + 1) else a) (0 : Int) := by
  have key : ∀ (xs : List κ) (m : List (κ × Int)), mget k (xs.foldl (fun m x => mset x (w64 (mget x m 0 + 1)) m) m) 0 = xs.foldl (fun a x => bif decide (x = k) then w64 (a + 1) else a) (mget k m 0) := by
    intro xs
    induction xs with
    | nil => intro m; rfl
    | cons x xs ih =>
      intro m
      rw [List.foldl_cons, ih, List.foldl_cons, mget_mset]
      by_cases hk : x = k
      · subst hk; simp
      · rw [if_neg (fun h => hk h.symm)]; simp [hk]
  rw [key]
  rfl
theorem firstO_mem {ρ : Type} {n : Nat} {b : Nat → Option ρ} {e : Option ρ} {r : ρ} (h : firstO n b e = some r) : (∃ i, i < n ∧ b i = some r) ∨ ((∀ i, i < n → b i = none) ∧ e = some r) := by
  rcases first_cases n b with h1 | ⟨i, r', hi, hj, hr⟩
  · rw [firstO_none h1] at h; exact .inr ⟨h1, h⟩
  · rw [firstO_some hi hj hr] at h; exact .inl ⟨i, hi, hr.trans h⟩
theorem bif_some {α : Type} {b : Bool} {x y : α} (h : (bif b then some x else none) = some y) : b = true ∧ x = y := by
  cases b
  · cases h
  · exact ⟨rfl, by simpa using h⟩
theorem bif_none {α : Type} {b : Bool} {x : α} (h : (bif b then some x else none) = none) : b = false := by
  cases b
  · rfl
  · cases h
theorem firstO_elim {σ ρ : Type} (n : Nat) (b : Nat → Option ρ) (s : σ) : firstO n (fun i => (b i).map Sum.inr) (some (.inl s)) = some ((firstO n b none).elim (.inl s) .inr) := by
  rcases first_cases n b with h | ⟨i, r, hi, hj, hr⟩
  · rw [firstO_none h, firstO_none (fun i hi => by rw [h i hi]; rfl)]; rfl
  · rw [firstO_some hi hj hr, firstO_some (r := .inr r) hi (fun j hl => by rw [hj j hl]; rfl) (by rw [hr]; rfl)]; rfl
theorem firstO_no {ρ : Type} {n : Nat} {b : Nat → Option ρ} {e : Option ρ} (h : firstO n b e = none) : ∀ i, i < n → b i = none := by
  rcases first_cases n b with h1 | ⟨i, r, hi, hj, hr⟩
  · exact h1
  · rw [firstO_some hi hj hr] at h; cases h
/-- Two loops that do the same. -/
theorem loop_twin {σ ρ : Type} {F F' : σ → Option (σ ⊕ ρ)} (n : Nat) (Inv : Nat → σ → Prop) (s0 : σ) (h0 : Inv 0 s0) (h : ∀ i s, i < n → Inv i s → F s = F' s ∧ ((∃ s', F' s = some (.inl s') ∧ Inv (i + 1) s') ∨ ∃ r, F' s = some (.inr r))) (hend : ∀ s, Inv n s → F s = F' s ∧ ∃ r, F' s = some (.inr r)) : ∃ r, loopO F s0 = some r ∧ loopO F' s0 = some r := by
  have key : ∀ k i s, i + k = n → Inv i s → ∃ r, loopO F s = some r ∧ loopO F' s = some r := by
    intro k
    induction k with
    | zero =>
      intro i s hi hs
      have : i = n := by omega
      subst this
      obtain ⟨h1, r, h2⟩ := hend s hs
      exact ⟨r, by rw [loopO_eq, h1, h2]; rfl, by rw [loopO_eq, h2]; rfl⟩
    | succ k ih =>
      intro i s hi hs
      obtain ⟨h1, h2⟩ := h i s (by omega) hs
      rcases h2 with ⟨s', h2, h3⟩ | ⟨r, h2⟩
      · obtain ⟨r, h4, h5⟩ := ih (i + 1) s' (by omega) h3
        exact ⟨r, by rw [loopO_eq, h1, h2]; exact h4, by rw [loopO_eq, h2]; exact h5⟩
      · exact ⟨r, by rw [loopO_eq, h1, h2]; rfl, by rw [loopO_eq, h2]; rfl⟩
  exact key n 0 s0 (by omega) h0
/-! ### slices.Contains over numbers -/
theorem found_any {α : Type} (xs : List α) (p : α → Bool) (e : Option Int) (he : e = some (-1)) : (firstO xs.length (fun i => bif (xs[i]?).any p then some (i : Int) else none) e).bind (fun v => some (decide (v ≥ (0:Int)))) = some (xs.any p) := by
  subst he
  obtain ⟨r, hr⟩ := firstO_is xs.length (fun i => bif (xs[i]?).any p then some (i : Int) else none) (e := some (-1)) ⟨_, rfl⟩
  rw [hr, Option.bind_some]
  have ht := range_any_take xs p xs.length
  rw [List.take_length] at ht
  rw [← ht]
  rcases firstO_mem hr with ⟨i, hi, h⟩ | ⟨h, h2⟩
  · obtain ⟨h3, rfl⟩ := bif_some h
    congr 1
    rw [Bool.eq_iff_iff, decide_eq_true_eq, List.any_eq_true]
    exact ⟨fun _ => ⟨i, List.mem_range.2 hi, h3⟩, fun _ => by omega⟩
  · have : r = -1 := by simpa using h2.symm
    subst this
    congr 1
    rw [Bool.eq_iff_iff, decide_eq_true_eq, List.any_eq_true]
    constructor
    · intro h; omega
    · rintro ⟨i, hi, h3⟩
      have := bif_none (h i (List.mem_range.1 hi))
      rw [h3] at this; cases this
theorem indexI {xs : List Int} (hl : xs.length ≤ 1048576) (v : Int) : f260 xs v = firstO xs.length (fun i => bif (xs[i]?).any (fun y => decide (v = y)) then some (i : Int) else none) (some (-1)) := by
  unfold f260
  refine loop_find xs.length (fun i => (i : Int)) _ _ (fun i hi _ => ?_) (fun _ => ?_)
  · unfold f260_L1
    simp only [lt_t hi, cond_true, getI_nat, List.getElem?_eq_getElem hi, Option.bind_some, Option.any_some, w64_nat (show i < 9223372036854775807 by omega)]
    by_cases hc : v = xs[i]
    · rw [decide_eq_true hc, beq_iff_eq.2 hc]; rfl
    · rw [decide_eq_false hc, beq_eq_false_iff_ne.2 hc]; rfl
  · unfold f260_L1
    simp only [lt_f, cond_false]
theorem containsI {xs : List Int} (hl : xs.length ≤ 1048576) (v : Int) : f161 xs v = some (xs.any fun y => decide (v = y)) := by
  unfold f161
  rw [indexI hl]
  exact found_any xs _ _ rfl
/-! ### Plans -/
/-- A loop that checks one after the other. -/
theorem loop_all {F : Int → Option (Int ⊕ Bool)} (n : Nat) (p : Nat → Bool) (e : Bool) (hn : n < 9223372036854775807) (h : ∀ i, i < n → (∀ j, j < i → p j = true) → F (i : Int) = some (bif p i then .inl ((i + 1 : Nat) : Int) else .inr false)) (hend : (∀ j, j < n → p j = true) → F (n : Int) = some (.inr e)) : loopO F (0 : Int) = some ((List.range n).all p && e) := by
  have : loopO F (((0 : Nat)) : Int) = firstO n (fun i => bif p i then none else some false) (some e) := by
    refine loop_find n (fun i => (i : Int)) _ _ (fun i hi hj => ?_) (fun hj => ?_)
    · rw [h i hi (fun j hl => by have := hj j hl; cases hp : p j <;> simp_all)]
      cases p i <;> rfl
    · rw [hend (fun j hl => by have := hj j hl; cases hp : p j <;> simp_all)]; rfl
  rw [show (0 : Int) = (((0 : Nat)) : Int) from rfl, this, firstO_all]
theorem range_all {α : Type} (xs : List α) (p : Nat → Bool) (q : α → Bool) (h : ∀ (i : Nat) (x : α), xs[i]? = some x → p i = q x) : (List.range xs.length).all p = xs.all q := by
  rw [Bool.eq_iff_iff, List.all_eq_true, List.all_eq_true]
  constructor
  · intro hp x hx
    obtain ⟨i, hi, rfl⟩ := List.getElem_of_mem hx
    rw [← h i _ (List.getElem?_eq_getElem hi)]
    exact hp i (List.mem_range.2 hi)
  · intro hq i hi
    have hi := List.mem_range.1 hi
    rw [h i _ (List.getElem?_eq_getElem hi)]
    exact hq _ (List.getElem_mem hi)
theorem inF_eq (x a b : Int) : f167 x a b = some (decide (x ≥ a) && decide (x ≤ b)) := rfl
theorem withinF_eq (x a b : Int) : f171 x a b = some (decide (x ≥ a) && decide (x ≤ b)) := rfl
/-- None twice, all as said. -/
def ndup {α : Type} (k : α → Int) (ok : α → Bool) : List Int → List α → Bool
  | _, [] => true
  | seen, x :: r => ok x && !(seen.any fun y => decide (y = k x)) && ndup k ok (seen ++ [k x]) r
theorem ndup_iff {α : Type} (k : α → Int) (ok : α → Bool) : ∀ (r : List α) (seen : List Int), ndup k ok seen r = true ↔ (∀ x ∈ r, ok x = true) ∧ (r.map k).Nodup ∧ ∀ x ∈ r, k x ∉ seen
  | [], seen => by simp [ndup]
  | x :: r, seen => by
    unfold ndup
    rw [Bool.and_eq_true, Bool.and_eq_true, ndup_iff k ok r, Bool.not_eq_true', List.any_eq_false]
    simp only [decide_eq_true_eq, List.mem_cons, List.map_cons, List.nodup_cons, List.mem_append, List.mem_singleton, List.not_mem_nil, or_false, List.mem_map, forall_eq_or_imp, not_or, not_exists, not_and]
    constructor
    · rintro ⟨⟨h1, h2⟩, h3, h4, h5⟩
      exact ⟨⟨h1, h3⟩, ⟨fun y hy e => (h5 y hy).2 e, h4⟩, fun hm => h2 _ hm rfl, fun y hy => (h5 y hy).1⟩
    · rintro ⟨⟨h1, h3⟩, ⟨h6, h4⟩, h2, h5⟩
      exact ⟨⟨h1, fun y hy e => h2 (e ▸ hy)⟩, h3, h4, fun y hy => ⟨h5 y hy, fun e => h6 y hy e⟩⟩
theorem ndup_range {α : Type} (k : α → Int) (ok : α → Bool) (xs : List α) : (List.range xs.length).all (fun i => (xs[i]?).all fun x => ok x && !((xs.take i).any fun y => decide (k y = k x))) = ndup k ok [] xs := by
  have key : ∀ (r : List α) (i : Nat), xs.drop i = r → ndup k ok ((xs.take i).map k) r = (List.range' i r.length).all (fun i => (xs[i]?).all fun x => ok x && !((xs.take i).any fun y => decide (k y = k x))) := by
    intro r
    induction r with
    | nil => intro i _; rfl
    | cons x r ih =>
      intro i hr
      have hlt : i < xs.length := by
        rcases Nat.lt_or_ge i xs.length with hl | hl
        · exact hl
        · rw [List.drop_eq_nil_of_le hl] at hr; cases hr
      rw [List.drop_eq_getElem_cons hlt] at hr
      simp only [List.cons.injEq] at hr
      have hx : xs[i]? = some x := by rw [List.getElem?_eq_getElem hlt, hr.1]
      rw [List.length_cons, List.range'_succ, List.all_cons, ← ih (i + 1) hr.2, hx]
      simp only [ndup, Option.all_some]
      rw [List.take_add_one, hx, List.map_append, List.any_map]
      rfl
  have := key xs 0 rfl
  rw [List.take_zero, List.map_nil] at this
  rw [this, List.range_eq_range']
theorem meet_eq (a b : List Int) (ha : a.length ≤ 1048576) (hb : b.length ≤ 1048576) : f169 a b = some (a.any fun x => b.any fun y => decide (x = y)) := by
  unfold f169
  refine loop_any a (fun x => b.any fun y => decide (x = y)) (fun i x hx => ?_) ?_
  · have hi := get_lt hx
    unfold f169_L1
    simp only [lt_t hi, cond_true, getI_nat, hx, Option.bind_some]
    have h2 : ∀ (r : List Int) (k : Nat), b.drop k = r → k ≤ b.length → loopO (f169_L2 b (i : Int) x) (k : Int) = some (bif r.any (fun y => decide (x = y)) then .inr true else .inl ((i + 1 : Nat) : Int)) := by
      intro r
      induction r with
      | nil =>
        intro k hr hk
        have hk' : k = b.length := by have := List.drop_eq_nil_iff.1 hr; omega
        subst hk'
        rw [loopO_eq]
        unfold f169_L2
        simp only [lt_f, cond_false, w64_nat (show i < 9223372036854775807 by omega)]
        rfl
      | cons y r ih =>
        intro k hr hk
        have hlt : k < b.length := by
          rcases Nat.lt_or_ge k b.length with hl | hl
          · exact hl
          · rw [List.drop_eq_nil_of_le hl] at hr; cases hr
        rw [List.drop_eq_getElem_cons hlt] at hr
        simp only [List.cons.injEq] at hr
        have hg : b[k]? = some y := by rw [List.getElem?_eq_getElem hlt, hr.1]
        rw [loopO_eq]
        unfold f169_L2
        simp only [lt_t hlt, cond_true, getI_nat, hg, Option.bind_some, w64_nat (show k < 9223372036854775807 by omega), List.any_cons]
        by_cases hc : x = y
        · rw [decide_eq_true hc, beq_iff_eq.2 hc]; rfl
        · rw [decide_eq_false hc, beq_eq_false_iff_ne.2 hc]
          simp only [cond_false, Option.bind_some, Bool.false_or]
          exact ih (k + 1) hr.2 hlt
    exact h2 b 0 rfl (Nat.zero_le _)
  · unfold f169_L1
    simp only [lt_f, cond_false, Option.map_some]
theorem common_eq (a b : List Int) (ha : a.length ≤ 1048576) (hb : b.length ≤ 1048576) : f173 a b = some (a.any fun x => b.any fun y => decide (x = y)) := by
  unfold f173 f272c273
  have h1 : f326c273 a b = firstO a.length (fun i => bif (a[i]?).any (fun x => b.any fun y => decide (x = y)) then some (i : Int) else none) (some (-1)) := by
    unfold f326c273
    refine loop_find a.length (fun i => (i : Int)) _ _ (fun i hi _ => ?_) (fun _ => ?_)
    · unfold f326c273_L1 f273
      simp only [lt_t hi, cond_true, getI_nat, List.getElem?_eq_getElem hi, Option.bind_some, containsI hb, Option.any_some, w64_nat (show i < 9223372036854775807 by omega)]
      cases (b.any fun y => decide (a[i] = y)) <;> rfl
    · unfold f326c273_L1
      simp only [lt_f, cond_false]
  rw [h1]
  have := found_any a (fun x => b.any fun y => decide (x = y)) (some (-1)) rfl
  rw [this]; rfl
def inB (n : Int) (x : Int) : Bool := decide (x ≥ (0:Int)) && decide (x ≤ w64 (n - 1))
def lB (l : List Int) (n : Int) : Bool := ndup (fun x => x) (inB n) [] l && decide ((l.length : Int) ≤ (30:Int))
theorem take_any {α : Type} (xs : List α) (i : Nat) (hi : i ≤ xs.length) (p : α → Bool) {F : Int → Option (Int ⊕ (Int ⊕ Bool))} {i' : Int} (hn : xs.length < 9223372036854775807) (h : ∀ (k : Nat) (y : α), k < i → xs[k]? = some y → F (k : Int) = some (bif p y then .inr (.inr false) else .inl ((k + 1 : Nat) : Int))) (hend : F (i : Int) = some (.inr (.inl i'))) : loopO F (0 : Int) = some (bif (xs.take i).any p then .inr false else .inl i') := by
  have h1 : loopO F (((0 : Nat)) : Int) = firstO i (fun k => bif (xs[k]?).any p then some (.inr false) else none) (some (.inl i')) := by
    refine loop_find i (fun k => (k : Int)) _ _ (fun k hk _ => ?_) (fun _ => hend)
    have hg := List.getElem?_eq_getElem (show k < xs.length by omega)
    rw [h k _ hk hg, hg, Option.any_some]
    cases p xs[k] <;> rfl
  rw [show (0 : Int) = (((0 : Nat)) : Int) from rfl, h1, firstO_any, range_any_take]
  cases (xs.take i).any p <;> rfl
theorem list_spec (l : List Int) (n : Int) (hl : l.length ≤ 1048576) : f267 l n = some (lB l n) := by
  unfold f267 lB
  rw [← ndup_range]
  refine loop_all l.length _ _ (by omega) (fun i hi _ => ?_) (fun _ => ?_)
  · have hg := List.getElem?_eq_getElem hi
    unfold f267_L1
    simp only [lt_t hi, cond_true, getI_nat, hg, Option.bind_some, inF_eq, Option.all_some]
    rw [show (decide (l[i] ≥ (0:Int)) && decide (l[i] ≤ w64 (n - 1))) = inB n l[i] from rfl]
    cases inB n l[i] with
    | false => rfl
    | true =>
      simp only [Bool.not_true, cond_false, Bool.true_and]
      rw [take_any l i (Nat.le_of_lt hi) (fun y => decide (y = l[i])) (i' := ((i + 1 : Nat) : Int)) (by omega) (fun k y hk hy => ?_) ?_]
      · cases ((l.take i).any fun y => decide (y = l[i])) <;> rfl
      rotate_left
      · unfold f267_L2
        simp only [lt_t hk, cond_true, getI_nat, hy, Option.bind_some, w64_nat (show k < 9223372036854775807 by omega)]
        by_cases hc : y = l[i]
        · rw [decide_eq_true hc, beq_iff_eq.2 hc]; rfl
        · rw [decide_eq_false hc, beq_eq_false_iff_ne.2 hc]; rfl
      · unfold f267_L2
        simp only [lt_f, cond_false, w64_nat (show i < 9223372036854775807 by omega)]
        rfl
  · unfold f267_L1
    simp only [lt_f, cond_false, Option.map_some]
theorem subB_take {α : Type} {xs : List α} {i : Nat} (hi : i ≤ xs.length) : subB xs (0:Int) (i : Int) = some (xs.take i) := by
  unfold subB
  rw [if_pos ⟨by omega, by omega, by omega⟩]
  simp
theorem list_impl (l : List Int) (n : Int) (hl : l.length ≤ 1048576) : f270 l n = some (lB l n) := by
  unfold f270 lB
  rw [← ndup_range]
  refine loop_all l.length _ _ (by omega) (fun i hi _ => ?_) (fun _ => ?_)
  · have hg := List.getElem?_eq_getElem hi
    unfold f270_L1
    simp only [lt_t hi, cond_true, getI_nat, hg, Option.bind_some, withinF_eq, Option.all_some, subB_take (Nat.le_of_lt hi), containsI (xs := l.take i) (by rw [List.length_take]; omega), w64_nat (show i < 9223372036854775807 by omega)]
    rw [show (decide (l[i] ≥ (0:Int)) && decide (l[i] ≤ w64 (n - 1))) = inB n l[i] from rfl]
    rw [show (fun y => decide (l[i] = y)) = (fun y => decide (y = l[i])) from funext fun y => by congr 1; exact propext eq_comm]
    cases inB n l[i] with
    | false => rfl
    | true => cases ((l.take i).any fun y => decide (y = l[i])) <;> rfl
  · unfold f270_L1
    simp only [lt_f, cond_false, Option.map_some]
def tB (p : Plan) (t : Turn) : Bool := inB (p.Switches.length : Int) t.Switch && (decide (t.Lie ≥ (1:Int)) && decide (t.Lie ≤ (2:Int)))
def tsB (p : Plan) (l : List Turn) : Bool := ndup Turn.Switch (tB p) [] l && decide ((l.length : Int) ≤ (30:Int))
theorem lies_spec (p : Plan) (l : List Turn) (hl : l.length ≤ 1048576) : f268 p l = some (tsB p l) := by
  unfold f268 tsB
  rw [← ndup_range]
  refine loop_all l.length _ _ (by omega) (fun i hi _ => ?_) (fun _ => ?_)
  · have hg := List.getElem?_eq_getElem hi
    unfold f268_L1
    simp only [lt_t hi, cond_true, getI_nat, hg, Option.bind_some, inF_eq, Option.all_some, cond_some]
    unfold tB
    rw [show (decide (l[i].Switch ≥ (0:Int)) && decide (l[i].Switch ≤ w64 ((p.Switches.length : Int) - 1))) = inB (p.Switches.length : Int) l[i].Switch from rfl]
    cases inB (p.Switches.length : Int) l[i].Switch with
    | false => rfl
    | true =>
      cases (decide (l[i].Lie ≥ (1:Int)) && decide (l[i].Lie ≤ (2:Int))) with
      | false => rfl
      | true =>
        simp only [Bool.not_true, cond_false, Bool.true_and]
        rw [take_any l i (Nat.le_of_lt hi) (fun y => decide (y.Switch = l[i].Switch)) (i' := ((i + 1 : Nat) : Int)) (by omega) (fun k y hk hy => ?_) ?_]
        · cases ((l.take i).any fun y => decide (y.Switch = l[i].Switch)) <;> rfl
        rotate_left
        · unfold f268_L2
          simp only [lt_t hk, cond_true, getI_nat, hy, Option.bind_some, w64_nat (show k < 9223372036854775807 by omega)]
          by_cases hc : y.Switch = l[i].Switch
          · rw [decide_eq_true hc, beq_iff_eq.2 hc]; rfl
          · rw [decide_eq_false hc, beq_eq_false_iff_ne.2 hc]; rfl
        · unfold f268_L2
          simp only [lt_f, cond_false, w64_nat (show i < 9223372036854775807 by omega)]
          rfl
  · unfold f268_L1
    simp only [lt_f, cond_false, Option.map_some]
theorem turn_get {p : Plan} {t : Turn} (hp : p.Switches.length ≤ 1048576) (h : tB p t = true) : ∃ (k : Nat) (c : Int), t.Switch = (k : Int) ∧ p.Switches[k]? = some c ∧ getI p.Switches t.Switch = some c := by
  unfold tB inB at h
  rw [le_pred (y := t.Switch) (n := (p.Switches.length : Int)) (by omega)] at h
  simp only [Bool.and_eq_true, decide_eq_true_eq] at h
  obtain ⟨k, hk⟩ : ∃ k : Nat, t.Switch = (k : Int) := ⟨t.Switch.toNat, by omega⟩
  have hlt : k < p.Switches.length := by omega
  exact ⟨k, _, hk, List.getElem?_eq_getElem hlt, by rw [hk, getI_nat, List.getElem?_eq_getElem hlt]⟩
def swOf (p : Plan) (t : Turn) : Int := (getI p.Switches t.Switch).getD 0
def inS (p : Plan) (w : Way) (t : Turn) : Bool := w.Sections.any fun y => decide (swOf p t = y)
def crossB (w : Way) (t : Turn) : Bool := w.Flanks.any fun y => decide (t.Switch = y.Switch)
def apartB (w : Way) : Bool := !(w.Over.any fun x => w.Sections.any fun y => decide (x = y))
def headB (p : Plan) (w : Way) : Bool := !((w.Sections.length : Int) == (0:Int)) && (lB w.Sections p.Sections && (lB w.Over p.Sections && lB w.Near p.Sections))
def wayB2 (p : Plan) (w : Way) : Bool := headB p w && ((tsB p w.Lies && tsB p w.Flanks) && ((w.Lies.all fun t => !crossB w t && inS p w t) && apartB w))
abbrev smW (w : Way) : Prop := w.Sections.length ≤ 1048576 ∧ w.Lies.length ≤ 1048576 ∧ w.Flanks.length ≤ 1048576 ∧ w.Over.length ≤ 1048576 ∧ w.Near.length ≤ 1048576
theorem tsB_all {p : Plan} {l : List Turn} (h : tsB p l = true) : ∀ t ∈ l, tB p t = true := by
  unfold tsB at h
  rw [Bool.and_eq_true, ndup_iff] at h
  exact h.1.1
theorem way_spec {p : Plan} {w : Way} (hp : p.Switches.length ≤ 1048576) (hw : smW w) : f168 p w = some (wayB2 p w) := by
  obtain ⟨h1, h2, h3, h4, h5⟩ := hw
  unfold f168 wayB2 headB
  simp only [list_spec _ _ h1, list_spec _ _ h4, list_spec _ _ h5, lies_spec _ _ h2, lies_spec _ _ h3, Option.bind_some, cond_some]
  cases hL : tsB p w.Lies with
  | false => cases ((w.Sections.length : Int) == (0:Int)) <;> cases lB w.Sections p.Sections <;> cases lB w.Over p.Sections <;> cases lB w.Near p.Sections <;> rfl
  | true =>
    have hloop : loopO (f168_L1 p w) (0 : Int) = some ((w.Lies.all fun t => !crossB w t && inS p w t) && apartB w) := by
      rw [← range_all w.Lies (fun i => (w.Lies[i]?).all fun t => !crossB w t && inS p w t) _ (fun i x hx => by rw [hx]; rfl)]
      refine loop_all w.Lies.length _ _ (by omega) (fun i hi _ => ?_) (fun _ => ?_)
      · have hg := List.getElem?_eq_getElem hi
        obtain ⟨k, c, e1, e2, e3⟩ := turn_get hp (tsB_all hL _ (List.getElem_mem hi))
        unfold f168_L1
        simp only [lt_t hi, cond_true, getI_nat, hg, Option.bind_some, Option.all_some]
        have hin : inS p w w.Lies[i] = w.Sections.any fun y => decide (c = y) := by unfold inS swOf; rw [e3]; rfl
        have hL2 : loopO (f168_L2 p w (i : Int) w.Lies[i]) (((0 : Nat)) : Int) = firstO w.Flanks.length (fun k => bif (w.Flanks[k]?).any (fun y => decide (w.Lies[i].Switch = y.Switch)) then some (.inr false) else none) (some (bif inS p w w.Lies[i] then .inl ((i + 1 : Nat) : Int) else .inr false)) := by
          refine loop_find w.Flanks.length (fun k => (k : Int)) _ _ (fun k hk _ => ?_) (fun _ => ?_)
          · have hgk := List.getElem?_eq_getElem hk
            unfold f168_L2
            simp only [lt_t hk, cond_true, getI_nat, hgk, Option.bind_some, Option.any_some, w64_nat (show k < 9223372036854775807 by omega)]
            by_cases hc : w.Lies[i].Switch = w.Flanks[k].Switch
            · rw [decide_eq_true hc, beq_iff_eq.2 hc]; rfl
            · rw [decide_eq_false hc, beq_eq_false_iff_ne.2 hc]; rfl
          · unfold f168_L2
            simp only [lt_f, cond_false, e3, Option.bind_some, meet_eq [c] w.Sections (by simp) h1, w64_nat (show i < 9223372036854775807 by omega)]
            rw [hin]
            simp only [List.any_cons, List.any_nil, Bool.or_false]
            cases (w.Sections.any fun y => decide (c = y)) <;> rfl
        have hL2 : loopO (f168_L2 p w (i : Int) w.Lies[i]) (0 : Int) = _ := hL2
        have hcr : crossB w w.Lies[i] = (List.range w.Flanks.length).any fun k => (w.Flanks[k]?).any fun y => decide (w.Lies[i].Switch = y.Switch) := by
          rw [range_any_take, List.take_length]; rfl
        rw [hL2, firstO_any, hcr]
        cases ((List.range w.Flanks.length).any fun k => (w.Flanks[k]?).any fun y => decide (w.Lies[i].Switch = y.Switch)) <;> cases inS p w w.Lies[i] <;> rfl
      · unfold f168_L1
        simp only [lt_f, cond_false, meet_eq _ _ h4 h1, Option.bind_some, Option.map_some]
        rfl
    rw [hloop]
    cases ((w.Sections.length : Int) == (0:Int)) <;> cases lB w.Sections p.Sections <;> cases lB w.Over p.Sections <;> cases lB w.Near p.Sections <;> cases tsB p w.Flanks <;> rfl
theorem any_swap (a b : List Int) : (a.any fun x => b.any fun y => decide (x = y)) = b.any fun x => a.any fun y => decide (x = y) := by
  rw [Bool.eq_iff_iff]
  simp only [List.any_eq_true, decide_eq_true_eq]
  constructor
  · rintro ⟨x, hx, y, hy, rfl⟩; exact ⟨x, hy, x, hx, rfl⟩
  · rintro ⟨x, hx, y, hy, rfl⟩; exact ⟨x, hy, x, hx, rfl⟩
theorem ndup_app {p : Plan} {w : Way} : (ndup Turn.Switch (tB p) [] (w.Lies ++ w.Flanks) && (w.Lies.all fun t => inS p w t)) = ((ndup Turn.Switch (tB p) [] w.Lies && ndup Turn.Switch (tB p) [] w.Flanks) && (w.Lies.all fun t => !crossB w t && inS p w t)) := by
  rw [Bool.eq_iff_iff]
  simp only [Bool.and_eq_true, ndup_iff, List.all_eq_true, List.mem_append, List.map_append, List.nodup_append, Bool.not_eq_true']
  constructor
  · rintro ⟨⟨h1, ⟨h2, h3, h4⟩, _⟩, h5⟩
    refine ⟨⟨⟨fun x hx => h1 x (.inl hx), h2, fun _ _ h => by cases h⟩, fun x hx => h1 x (.inr hx), h3, fun _ _ h => by cases h⟩, fun x hx => ⟨?_, h5 x hx⟩⟩
    unfold crossB
    rw [List.any_eq_false]
    intro y hy
    simp only [decide_eq_true_eq]
    exact h4 _ (List.mem_map_of_mem hx) _ (List.mem_map_of_mem hy)
  · rintro ⟨⟨⟨h1, h2, _⟩, h3, h4, _⟩, h5⟩
    refine ⟨⟨fun x hx => hx.elim (h1 x) (h3 x), ⟨h2, h4, ?_⟩, fun _ _ h => by cases h⟩, fun x hx => (h5 x hx).2⟩
    intro a ha b hb e
    obtain ⟨x, hx, rfl⟩ := List.mem_map.1 ha
    obtain ⟨y, hy, rfl⟩ := List.mem_map.1 hb
    have := (h5 x hx).1
    unfold crossB at this
    rw [List.any_eq_false] at this
    exact absurd e (by simpa using this y hy)
theorem way_impl {p : Plan} {w : Way} (hp : p.Switches.length ≤ 1048576) (hw : smW w) : f172 p w = some (wayB2 p w) := by
  obtain ⟨h1, h2, h3, h4, h5⟩ := hw
  unfold f172 wayB2 headB
  simp only [list_impl _ _ h1, list_impl _ _ h4, list_impl _ _ h5, Option.bind_some, cond_some]
  have hz0 : appB 16 ([] : List Turn) w.Lies = some w.Lies := by rw [appB_ok (by simp; omega)]; rfl
  have hz : appB 16 w.Lies w.Flanks = some (w.Lies ++ w.Flanks) := appB_ok (by omega)
  rw [hz0, Option.bind_some, hz, Option.bind_some]
  have hlen : (w.Lies ++ w.Flanks).length ≤ 2097152 := by simp; omega
  have hloop : loopO (f172_L1 p w (w.Lies ++ w.Flanks)) (([] : List (Int × Bool)), w.Lies ++ w.Flanks, (0:Int)) = some (ndup Turn.Switch (tB p) [] (w.Lies ++ w.Flanks) && ((w.Lies.all fun t => inS p w t) && apartB w)) := by
    have key : ∀ (r : List Turn) (i : Nat) (m : List (Int × Bool)), (w.Lies ++ w.Flanks).drop i = r → i ≤ (w.Lies ++ w.Flanks).length → (∀ t ∈ (w.Lies ++ w.Flanks).take i, tB p t = true) → (∀ k, mget k m false = ((w.Lies ++ w.Flanks).take i).any fun t => decide (t.Switch = k)) →
        loopO (f172_L1 p w (w.Lies ++ w.Flanks)) (m, w.Lies ++ w.Flanks, (i : Int)) = some (ndup Turn.Switch (tB p) (((w.Lies ++ w.Flanks).take i).map (·.Switch)) r && ((w.Lies.all fun t => inS p w t) && apartB w)) := by
      intro r
      induction r with
      | nil =>
        intro i m hr hi hok hm
        have hi' : i = (w.Lies ++ w.Flanks).length := by have := List.drop_eq_nil_iff.1 hr; omega
        subst hi'
        rw [List.take_length] at hok
        rw [loopO_eq]
        unfold f172_L1
        simp only [lt_f, cond_false, ndup, Bool.true_and]
        have hL2 : loopO (f172_L2 p w) (0 : Int) = some ((w.Lies.all fun t => inS p w t) && apartB w) := by
          rw [← range_all w.Lies (fun i => (w.Lies[i]?).all fun t => inS p w t) _ (fun i x hx => by rw [hx]; rfl)]
          refine loop_all w.Lies.length _ _ (by omega) (fun i hi _ => ?_) (fun _ => ?_)
          · have hg := List.getElem?_eq_getElem hi
            obtain ⟨k, c, e1, e2, e3⟩ := turn_get hp (hok _ (List.mem_append_left _ (List.getElem_mem hi)))
            have hin : inS p w w.Lies[i] = w.Sections.any fun y => decide (c = y) := by unfold inS swOf; rw [e3]; rfl
            unfold f172_L2
            simp only [lt_t hi, cond_true, getI_nat, hg, Option.bind_some, Option.all_some, e3, containsI h1, w64_nat (show i < 9223372036854775807 by omega)]
            rw [hin]
            cases (w.Sections.any fun y => decide (c = y)) <;> rfl
          · unfold f172_L2
            simp only [lt_f, cond_false, common_eq _ _ h1 h4, Option.bind_some, Option.map_some]
            unfold apartB
            rw [any_swap w.Over]
        rw [hL2]
        rfl
      | cons t r ih =>
        intro i m hr hi hok hm
        have hlt : i < (w.Lies ++ w.Flanks).length := by
          rcases Nat.lt_or_ge i (w.Lies ++ w.Flanks).length with hl | hl
          · exact hl
          · rw [List.drop_eq_nil_of_le hl] at hr; cases hr
        rw [List.drop_eq_getElem_cons hlt] at hr
        simp only [List.cons.injEq] at hr
        have hg : (w.Lies ++ w.Flanks)[i]? = some t := by rw [List.getElem?_eq_getElem hlt, hr.1]
        rw [loopO_eq]
        generalize hF : loopO (f172_L1 p w (w.Lies ++ w.Flanks)) = LP at ih ⊢
        unfold f172_L1
        simp only [lt_t hlt, cond_true, getI_nat, hg, Option.bind_some, withinF_eq, cond_some, hm, w64_nat (show i < 9223372036854775807 by omega)]
        have hndup : ndup Turn.Switch (tB p) (((w.Lies ++ w.Flanks).take i).map (·.Switch)) (t :: r) = ((tB p t && !(((w.Lies ++ w.Flanks).take i).any fun y => decide (y.Switch = t.Switch))) && ndup Turn.Switch (tB p) (((w.Lies ++ w.Flanks).take (i + 1)).map (·.Switch)) r) := by
          rw [ndup, List.any_map, List.take_add_one, hg, List.map_append]
          rfl
        rw [hndup]
        unfold tB at hok ⊢
        rw [show (decide (t.Switch ≥ (0:Int)) && decide (t.Switch ≤ w64 ((p.Switches.length : Int) - 1))) = inB (p.Switches.length : Int) t.Switch from rfl]
        cases hc1 : inB (p.Switches.length : Int) t.Switch with
        | false => rfl
        | true =>
          cases hc2 : (decide (t.Lie ≥ (1:Int)) && decide (t.Lie ≤ (2:Int))) with
          | false => rfl
          | true =>
            cases hc3 : (((w.Lies ++ w.Flanks).take i).any fun y => decide (y.Switch = t.Switch)) with
            | true => rfl
            | false =>
              simp only [Bool.not_true, cond_false, Bool.or_false, Option.bind_some, Bool.true_and, Bool.and_self, Bool.not_false]
              have hih := ih (i + 1) (mset t.Switch true m) hr.2 hlt (fun x hx => ?_) (fun k => ?_)
              · exact hih
              · rw [List.take_add_one, hg] at hx
                rcases List.mem_append.1 hx with hx | hx
                · exact hok x hx
                · simp only [Option.toList_some, List.mem_singleton] at hx
                  subst hx
                  unfold tB
                  rw [hc1, hc2]; rfl
              · rw [mget_mset, hm, List.take_add_one, hg, List.any_append]
                simp only [Option.toList_some, List.any_cons, List.any_nil, Bool.or_false]
                by_cases hk : k = t.Switch
                · rw [if_pos hk]; simp [hk]
                · rw [if_neg hk, decide_eq_false (fun e => hk e.symm), Bool.or_false]
    have := key (w.Lies ++ w.Flanks) 0 [] rfl (Nat.zero_le _) (fun t ht => by simp at ht) (fun k => rfl)
    simpa using this
  rw [hloop]
  have h30 : ∀ l : List Turn, decide ((l.length : Int) > (30:Int)) = !decide ((l.length : Int) ≤ (30:Int)) := fun l => by
    by_cases hc : (l.length : Int) ≤ 30
    · rw [decide_eq_true hc, decide_eq_false (by omega)]; rfl
    · rw [decide_eq_false hc, decide_eq_true (by omega)]; rfl
  rw [h30, h30, ← Bool.and_assoc (ndup _ _ _ _), ndup_app]
  unfold tsB
  generalize ((w.Sections.length : Int) == (0:Int)) = b0
  generalize lB w.Sections p.Sections = b1
  generalize lB w.Over p.Sections = b2
  generalize lB w.Near p.Sections = b3
  generalize decide ((w.Lies.length : Int) ≤ (30:Int)) = b4
  generalize decide ((w.Flanks.length : Int) ≤ (30:Int)) = b5
  generalize ndup Turn.Switch (tB p) [] w.Lies = b6
  generalize ndup Turn.Switch (tB p) [] w.Flanks = b7
  generalize (w.Lies.all fun t => !crossB w t && inS p w t) = b8
  generalize apartB w = b9
  cases b0 <;> cases b1 <;> cases b2 <;> cases b3 <;> cases b4 <;> cases b5 <;> cases b6 <;> cases b7 <;> cases b8 <;> cases b9 <;> rfl
def meetB (a b : List Int) : Bool := a.any fun x => b.any fun y => decide (x = y)
def barD (p : Plan) (i k : Nat) : Bool := ((p.Bars[i]?).bind fun r => r[k]?).getD false
def secD (p : Plan) (i : Nat) : List Int := ((p.Ways[i]?).map (·.Sections)).getD []
def badB (p : Plan) (i k : Nat) : Bool := !(barD p i k == barD p k i) || (!(decide (i = k)) && (!barD p i k && meetB (secD p i) (secD p k)))
def plan4 (p : Plan) : Option Fault := firstO p.Ways.length (fun i => bif (List.range p.Ways.length).any (badB p i) then some ⟨5, (i : Int)⟩ else none) (some ⟨0, 0⟩)
def plan3 (p : Plan) (e : Option Fault) : Option Fault := firstO p.Bars.length (fun i => bif (p.Bars[i]?).any (fun r => ((r.length : Int) != (p.Ways.length : Int))) then some ⟨4, (i : Int)⟩ else none) e
def plan2 (p : Plan) (e : Option Fault) : Option Fault := firstO p.Ways.length (fun i => bif (p.Ways[i]?).any (fun w => !wayB2 p w) then some ⟨3, (i : Int)⟩ else none) (bif ((p.Bars.length : Int) != (p.Ways.length : Int)) then some ⟨4, 0⟩ else plan3 p e)
def plan1 (p : Plan) (e : Option Fault) : Option Fault := firstO p.Switches.length (fun i => bif (p.Switches[i]?).any (fun x => !inB p.Sections x) then some ⟨2, (i : Int)⟩ else none) (plan2 p e)
def headP (p : Plan) : Bool := ((decide (p.Sections ≥ (1:Int)) && decide (p.Sections ≤ (60:Int))) && (decide (p.Hold ≥ (1:Int)) && decide (p.Hold ≤ (300:Int)))) && (!decide ((p.Switches.length : Int) > (40:Int)) && !decide ((p.Ways.length : Int) > (100:Int)))
def planO (p : Plan) : Option Fault := bif !headP p then some ⟨1, 0⟩ else plan1 p (plan4 p)
theorem planO_is (p : Plan) : ∃ r, planO p = some r := by
  have h4 : ∃ r, plan4 p = some r := firstO_is _ _ ⟨_, rfl⟩
  have h3 : ∃ r, plan3 p (plan4 p) = some r := firstO_is _ _ h4
  have h2 : ∃ r, plan2 p (plan4 p) = some r := by
    refine firstO_is _ _ ?_
    cases ((p.Bars.length : Int) != (p.Ways.length : Int))
    · exact h3
    · exact ⟨_, rfl⟩
  have h1 : ∃ r, plan1 p (plan4 p) = some r := firstO_is _ _ h2
  unfold planO
  cases headP p
  · exact ⟨_, rfl⟩
  · exact h1
theorem sm_way {w : Way} (h : smWay w) : smW w := ⟨h.1.1, h.2.1.1, h.2.2.1.1, h.2.2.2.1.1, h.2.2.2.2.1⟩
theorem plan3_congr {p : Plan} (hb : ((p.Bars.length : Int) != (p.Ways.length : Int)) = false) {e e' : Option Fault} (h : (∀ (i : Nat), i < p.Ways.length → ∃ r, p.Bars[i]? = some r ∧ r.length = p.Ways.length) → e = e') : plan3 p e = plan3 p e' := by
  unfold plan3
  refine firstO_congr (fun _ _ => rfl) fun hn => h fun i hi => ?_
  rw [bne_eq_false_iff_eq] at hb
  have hlt : i < p.Bars.length := by omega
  have h1 := hn i hlt
  rw [List.getElem?_eq_getElem hlt, Option.any_some] at h1
  have h2 := bif_none h1
  rw [bne_eq_false_iff_eq] at h2
  exact ⟨_, List.getElem?_eq_getElem hlt, by omega⟩
theorem plan_chain {p : Plan} {e e' : Option Fault} (h : ((p.Bars.length : Int) != (p.Ways.length : Int)) = false → (∀ (i : Nat), i < p.Ways.length → ∃ r, p.Bars[i]? = some r ∧ r.length = p.Ways.length) → e = e') : plan1 p e = plan1 p e' := by
  unfold plan1
  refine firstO_congr (fun _ _ => rfl) fun _ => ?_
  unfold plan2
  refine firstO_congr (fun _ _ => rfl) fun _ => ?_
  cases hb : ((p.Bars.length : Int) != (p.Ways.length : Int)) with
  | true => rfl
  | false => exact plan3_congr hb (h hb)
theorem loop_any2 {ρ : Type} {n : Nat} (p : Nat → Bool) (r0 : ρ) {F : Int → Option (Int ⊕ (Int ⊕ ρ))} {i' : Int} (h : ∀ k, k < n → F (k : Int) = some (bif p k then .inr (.inr r0) else .inl ((k + 1 : Nat) : Int))) (hend : F (n : Int) = some (.inr (.inl i'))) : loopO F (0 : Int) = some (bif (List.range n).any p then .inr r0 else .inl i') := by
  have h1 : loopO F (((0 : Nat)) : Int) = firstO n (fun k => bif p k then some (.inr r0) else none) (some (.inl i')) := by
    refine loop_find n (fun k => (k : Int)) _ _ (fun k hk _ => ?_) (fun _ => hend)
    rw [h k hk]
    cases p k <;> rfl
  rw [show (0 : Int) = (((0 : Nat)) : Int) from rfl, h1, firstO_any]
  cases (List.range n).any p <;> rfl
theorem ne_nat (i k : Nat) : ((i : Int) != (k : Int)) = !(decide (i = k)) := by
  by_cases h : i = k
  · rw [decide_eq_true h, h]; simp
  · rw [decide_eq_false h, bne_iff_ne.2 (by omega)]; rfl
theorem bars_spec {p : Plan} (hs : smPlan p) (hr : ∀ (i : Nat), i < p.Ways.length → ∃ r, p.Bars[i]? = some r ∧ r.length = p.Ways.length) (hb : p.Bars.length = p.Ways.length) : loopO (f52_L4 p) (0 : Int) = plan4 p := by
  have hw := hs.2.1.1
  unfold plan4
  rw [show (0 : Int) = (((0 : Nat)) : Int) from rfl]
  have := loop_find (F := f52_L4 p) p.Ways.length (fun i => (i : Int)) (fun i => bif (List.range p.Ways.length).any (badB p i) then some (⟨5, (i : Int)⟩ : Fault) else none) (some ⟨0, 0⟩) (fun i hi _ => ?_) (fun _ => ?_)
  · exact this
  · obtain ⟨row, hrow, hlen⟩ := hr i hi
    have hwi := List.getElem?_eq_getElem hi
    unfold f52_L4
    simp only [hb, lt_t hi, cond_true, getI_nat, hrow, Option.bind_some]
    rw [loop_any2 (n := p.Ways.length) (badB p i) (⟨5, (i : Int)⟩ : Fault) (i' := ((i + 1 : Nat) : Int)) (fun k hk => ?_) ?_]
    · cases (List.range p.Ways.length).any (badB p i) <;> rfl
    rotate_left
    · obtain ⟨row2, hrow2, hlen2⟩ := hr k hk
      have hwk := List.getElem?_eq_getElem hk
      have h1 := List.getElem?_eq_getElem (show k < row.length by omega)
      have h2 := List.getElem?_eq_getElem (show i < row2.length by omega)
      have e1 : barD p i k = row[k]'(by omega) := by unfold barD; rw [hrow, Option.bind_some, h1]; rfl
      have e2 : barD p k i = row2[i]'(by omega) := by unfold barD; rw [hrow2, Option.bind_some, h2]; rfl
      have e3 : secD p i = p.Ways[i].Sections := by unfold secD; rw [hwi]; rfl
      have e4 : secD p k = p.Ways[k].Sections := by unfold secD; rw [hwk]; rfl
      have l1 := (sm_way (hs.2.1.2 _ (List.getElem_mem hi))).1
      have l2 := (sm_way (hs.2.1.2 _ (List.getElem_mem hk))).1
      unfold f52_L5 badB
      simp only [hlen, lt_t hk, cond_true, getI_nat, h1, hrow2, h2, Option.bind_some, hwi, hwk, meet_eq _ _ l1 l2, w64_nat (show k < 9223372036854775807 by omega), ne_nat]
      rw [e1, e2, e3, e4]
      unfold meetB
      cases (row[k]'(by omega) == row2[i]'(by omega)) with
      | false => rfl
      | true =>
        cases decide (i = k) with
        | true => rfl
        | false =>
          cases row[k]'(by omega) with
          | true => rfl
          | false => cases (p.Ways[i].Sections.any fun x => p.Ways[k].Sections.any fun y => decide (x = y)) <;> rfl
    · unfold f52_L5
      simp only [hlen, lt_f, cond_false, w64_nat (show i < 9223372036854775807 by omega)]
      rfl
  · unfold f52_L4
    simp only [hb, lt_f, cond_false]
theorem bars_impl {p : Plan} (hs : smPlan p) (hr : ∀ (i : Nat), i < p.Ways.length → ∃ r, p.Bars[i]? = some r ∧ r.length = p.Ways.length) : loopO (f54_L4 p) (0 : Int) = plan4 p := by
  have hw := hs.2.1.1
  unfold plan4
  rw [show (0 : Int) = (((0 : Nat)) : Int) from rfl]
  have := loop_find (F := f54_L4 p) p.Ways.length (fun i => (i : Int)) (fun i => bif (List.range p.Ways.length).any (badB p i) then some (⟨5, (i : Int)⟩ : Fault) else none) (some ⟨0, 0⟩) (fun i hi _ => ?_) (fun _ => ?_)
  · exact this
  · obtain ⟨row, hrow, hlen⟩ := hr i hi
    have hwi := List.getElem?_eq_getElem hi
    unfold f54_L4
    simp only [lt_t hi, cond_true]
    rw [loop_any2 (n := p.Ways.length) (badB p i) (⟨5, (i : Int)⟩ : Fault) (i' := ((i + 1 : Nat) : Int)) (fun k hk => ?_) ?_]
    · cases (List.range p.Ways.length).any (badB p i) <;> rfl
    rotate_left
    · obtain ⟨row2, hrow2, hlen2⟩ := hr k hk
      have hwk := List.getElem?_eq_getElem hk
      have h1 := List.getElem?_eq_getElem (show k < row.length by omega)
      have h2 := List.getElem?_eq_getElem (show i < row2.length by omega)
      have e1 : barD p i k = row[k]'(by omega) := by unfold barD; rw [hrow, Option.bind_some, h1]; rfl
      have e2 : barD p k i = row2[i]'(by omega) := by unfold barD; rw [hrow2, Option.bind_some, h2]; rfl
      have e3 : secD p i = p.Ways[i].Sections := by unfold secD; rw [hwi]; rfl
      have e4 : secD p k = p.Ways[k].Sections := by unfold secD; rw [hwk]; rfl
      have l1 := (sm_way (hs.2.1.2 _ (List.getElem_mem hi))).1
      have l2 := (sm_way (hs.2.1.2 _ (List.getElem_mem hk))).1
      unfold f54_L5 badB
      simp only [lt_t hk, cond_true, getI_nat, hrow, h1, hrow2, h2, Option.bind_some, hwi, hwk, common_eq _ _ l1 l2, w64_nat (show k < 9223372036854775807 by omega), ne_nat]
      rw [e1, e2, e3, e4]
      unfold meetB
      cases (row[k]'(by omega) == row2[i]'(by omega)) with
      | false => rfl
      | true =>
        cases decide (i = k) with
        | true => rfl
        | false =>
          cases row[k]'(by omega) with
          | true => rfl
          | false => cases (p.Ways[i].Sections.any fun x => p.Ways[k].Sections.any fun y => decide (x = y)) <;> rfl
    · unfold f54_L5
      simp only [lt_f, cond_false, w64_nat (show i < 9223372036854775807 by omega)]
      rfl
  · unfold f54_L4
    simp only [lt_f, cond_false]
theorem plan_spec {p : Plan} (hs : smPlan p) : f52 p = some (((f52 p)).getD ⟨0, 0⟩) ∧ f52 p = planO p := by
  have hq : f52 p = planO p := by
    have hw := hs.2.1.1
    have hsw := hs.1.1
    have hbl := hs.2.2.1
    unfold f52 planO headP
    simp only [inF_eq, Option.bind_some, cond_some]
    have hl : loopO (f52_L1 p) (0 : Int) = plan1 p (plan4 p) := by
      have h1 : loopO (f52_L1 p) (((0 : Nat)) : Int) = plan1 p (loopO (f52_L4 p) (0 : Int)) := by
        unfold plan1
        refine loop_find p.Switches.length (fun i => (i : Int)) _ _ (fun i hi _ => ?_) (fun _ => ?_)
        · have hg := List.getElem?_eq_getElem hi
          unfold f52_L1
          simp only [lt_t hi, cond_true, getI_nat, hg, Option.bind_some, inF_eq, Option.any_some, w64_nat (show i < 9223372036854775807 by omega)]
          rw [show (decide (p.Switches[i] ≥ (0:Int)) && decide (p.Switches[i] ≤ w64 (p.Sections - 1))) = inB p.Sections p.Switches[i] from rfl]
          cases inB p.Sections p.Switches[i] <;> rfl
        · unfold f52_L1
          simp only [lt_f, cond_false]
          congr 1
          unfold plan2
          have h2 : loopO (f52_L2 p) (((0 : Nat)) : Int) = firstO p.Ways.length (fun i => bif (p.Ways[i]?).any (fun w => !wayB2 p w) then some ⟨3, (i : Int)⟩ else none) (bif ((p.Bars.length : Int) != (p.Ways.length : Int)) then some ⟨4, 0⟩ else loopO (f52_L3 p) (0 : Int)) := by
            refine loop_find p.Ways.length (fun i => (i : Int)) _ _ (fun i hi _ => ?_) (fun _ => ?_)
            · have hg := List.getElem?_eq_getElem hi
              unfold f52_L2
              simp only [lt_t hi, cond_true, getI_nat, hg, Option.bind_some, way_spec hsw (sm_way (hs.2.1.2 _ (List.getElem_mem hi))), Option.any_some, w64_nat (show i < 9223372036854775807 by omega)]
              cases wayB2 p p.Ways[i] <;> rfl
            · unfold f52_L2
              simp only [lt_f, cond_false]
          have h2 : loopO (f52_L2 p) (0 : Int) = _ := h2
          rw [h2]
          congr 2
          unfold plan3
          have h3 : loopO (f52_L3 p) (((0 : Nat)) : Int) = firstO p.Bars.length (fun i => bif (p.Bars[i]?).any (fun r => ((r.length : Int) != (p.Ways.length : Int))) then some ⟨4, (i : Int)⟩ else none) (loopO (f52_L4 p) (0 : Int)) := by
            refine loop_find p.Bars.length (fun i => (i : Int)) _ _ (fun i hi _ => ?_) (fun _ => ?_)
            · have hg := List.getElem?_eq_getElem hi
              unfold f52_L3
              simp only [lt_t hi, cond_true, getI_nat, hg, Option.bind_some, Option.any_some, w64_nat (show i < 9223372036854775807 by omega)]
              cases ((p.Bars[i].length : Int) != (p.Ways.length : Int)) <;> rfl
            · unfold f52_L3
              simp only [lt_f, cond_false]
          exact h3
      have h1 : loopO (f52_L1 p) (0 : Int) = _ := h1
      rw [h1]
      refine plan_chain fun hb hr => bars_spec hs hr ?_
      rw [bne_eq_false_iff_eq] at hb
      omega
    rw [hl]
    cases (decide (p.Sections ≥ (1:Int)) && decide (p.Sections ≤ (60:Int))) <;> cases (decide (p.Hold ≥ (1:Int)) && decide (p.Hold ≤ (300:Int))) <;> cases decide ((p.Switches.length : Int) > (40:Int)) <;> cases decide ((p.Ways.length : Int) > (100:Int)) <;> rfl
  obtain ⟨r, hr⟩ := planO_is p
  exact ⟨by rw [hq, hr]; rfl, hq⟩
theorem plan_impl {p : Plan} (hs : smPlan p) : f54 p = planO p := by
  have hw := hs.2.1.1
  have hsw := hs.1.1
  have hbl := hs.2.2.1
  unfold f54 planO headP
  simp only [withinF_eq, Option.bind_some, cond_some]
  have hl : loopO (f54_L1 p) (0 : Int) = plan1 p (plan4 p) := by
    have h1 : loopO (f54_L1 p) (((0 : Nat)) : Int) = plan1 p (loopO (f54_L4 p) (0 : Int)) := by
      unfold plan1
      refine loop_find p.Switches.length (fun i => (i : Int)) _ _ (fun i hi _ => ?_) (fun _ => ?_)
      · have hg := List.getElem?_eq_getElem hi
        unfold f54_L1
        simp only [lt_t hi, cond_true, getI_nat, hg, Option.bind_some, withinF_eq, Option.any_some, w64_nat (show i < 9223372036854775807 by omega)]
        rw [show (decide (p.Switches[i] ≥ (0:Int)) && decide (p.Switches[i] ≤ w64 (p.Sections - 1))) = inB p.Sections p.Switches[i] from rfl]
        cases inB p.Sections p.Switches[i] <;> rfl
      · unfold f54_L1
        simp only [lt_f, cond_false]
        congr 1
        unfold plan2
        have h2 : loopO (f54_L2 p) (((0 : Nat)) : Int) = firstO p.Ways.length (fun i => bif (p.Ways[i]?).any (fun w => !wayB2 p w) then some ⟨3, (i : Int)⟩ else none) (bif ((p.Bars.length : Int) != (p.Ways.length : Int)) then some ⟨4, 0⟩ else loopO (f54_L3 p) (0 : Int)) := by
          refine loop_find p.Ways.length (fun i => (i : Int)) _ _ (fun i hi _ => ?_) (fun _ => ?_)
          · have hg := List.getElem?_eq_getElem hi
            unfold f54_L2
            simp only [lt_t hi, cond_true, getI_nat, hg, Option.bind_some, way_impl hsw (sm_way (hs.2.1.2 _ (List.getElem_mem hi))), Option.any_some, w64_nat (show i < 9223372036854775807 by omega)]
            cases wayB2 p p.Ways[i] <;> rfl
          · unfold f54_L2
            simp only [lt_f, cond_false]
        have h2 : loopO (f54_L2 p) (0 : Int) = _ := h2
        rw [h2]
        congr 2
        unfold plan3
        have h3 : loopO (f54_L3 p) (((0 : Nat)) : Int) = firstO p.Bars.length (fun i => bif (p.Bars[i]?).any (fun r => ((r.length : Int) != (p.Ways.length : Int))) then some ⟨4, (i : Int)⟩ else none) (loopO (f54_L4 p) (0 : Int)) := by
          refine loop_find p.Bars.length (fun i => (i : Int)) _ _ (fun i hi _ => ?_) (fun _ => ?_)
          · have hg := List.getElem?_eq_getElem hi
            unfold f54_L3
            simp only [lt_t hi, cond_true, getI_nat, hg, Option.bind_some, Option.any_some, w64_nat (show i < 9223372036854775807 by omega)]
            cases ((p.Bars[i].length : Int) != (p.Ways.length : Int)) <;> rfl
          · unfold f54_L3
            simp only [lt_f, cond_false]
        exact h3
    have h1 : loopO (f54_L1 p) (0 : Int) = _ := h1
    rw [h1]
    exact plan_chain fun _ hr => bars_impl hs hr
  rw [hl]
  cases (decide (p.Sections ≥ (1:Int)) && decide (p.Sections ≤ (60:Int))) <;> cases (decide (p.Hold ≥ (1:Int)) && decide (p.Hold ≤ (300:Int))) <;> cases decide ((p.Switches.length : Int) > (40:Int)) <;> cases decide ((p.Ways.length : Int) > (100:Int)) <;> rfl
theorem firstO_P {ρ : Type} {P : ρ → Prop} {n : Nat} {f : Nat → Option ρ} {e : Option ρ} {r : ρ} (h : firstO n f e = some r) (hf : ∀ i r, f i = some r → P r) (he : e = some r → P r) : P r := by
  rcases firstO_mem h with ⟨i, _, h⟩ | ⟨_, h⟩
  · exact hf i r h
  · exact he h
def wholeF (f : Fault) : Prop := (f.Code == 0 && (f.At == 0 && true)) = (f.Code == 0)
theorem bif_whole {b : Bool} {x r : Fault} (hx : wholeF x) (h : (bif b then some x else none) = some r) : wholeF r := by
  obtain ⟨_, rfl⟩ := bif_some h
  exact hx
theorem planO_whole {p : Plan} {f : Fault} (h : planO p = some f) : wholeF f := by
  unfold planO at h
  cases hh : headP p with
  | false => rw [hh] at h; cases h; rfl
  | true =>
    rw [hh] at h
    refine firstO_P h (fun i r h => bif_whole (by unfold wholeF; rfl) h) fun h => ?_
    refine firstO_P h (fun i r h => bif_whole (by unfold wholeF; rfl) h) fun h => ?_
    cases hb : ((p.Bars.length : Int) != (p.Ways.length : Int)) with
    | true => rw [hb] at h; cases h; rfl
    | false =>
      rw [hb] at h
      refine firstO_P h (fun i r h => bif_whole (by unfold wholeF; rfl) h) fun h => ?_
      refine firstO_P h (fun i r h => bif_whole (by unfold wholeF; rfl) h) fun h => ?_
      cases h; rfl
theorem plan_head {p : Plan} {f : Fault} (h : planO p = some f) (h0 : (f.Code == 0) = true) : headP p = true := by
  unfold planO at h
  cases hh : headP p with
  | true => rfl
  | false => rw [hh] at h; cases h; cases h0
theorem ok_spec {p : Plan} {f : Fault} (hs : smPlan p) (hf : planO p = some f) : f175 p = some (f.Code == 0) := by unfold f175; rw [(plan_spec hs).2, hf]; rfl
theorem ok_impl {p : Plan} {f : Fault} (hs : smPlan p) (hf : planO p = some f) : f177 p = some (f.Code == 0) := by unfold f177; rw [plan_impl hs, hf, Option.bind_some, (planO_whole hf : _ = _)]
theorem head_facts {p : Plan} (h : headP p = true) : 1 ≤ p.Sections ∧ p.Sections ≤ 60 ∧ p.Switches.length ≤ 40 ∧ p.Ways.length ≤ 100 ∧ 1 ≤ p.Hold ∧ p.Hold ≤ 300 := by
  unfold headP at h
  simp only [Bool.and_eq_true, decide_eq_true_eq, Bool.not_eq_true', decide_eq_false_iff_not] at h
  omega
/-- A loop that gathers, one element after the other. -/
theorem gather {α β σ ρ : Type} {F : σ → Option (σ ⊕ ρ)} (st : List β → Int → σ) (xs : List α) (g : α → β) {r : ρ} (hstep : ∀ (row : List β) (i : Nat) (x : α), xs[i]? = some x → row.length = i → F (st row (i : Int)) = some (.inl (st (row ++ [g x]) ((i + 1 : Nat) : Int)))) (hend : F (st (xs.map g) (xs.length : Int)) = some (.inr r)) : loopO F (st [] (0 : Int)) = some r := by
  have := loopO_run (F := F) xs.length (fun i => st ((xs.take i).map g) (i : Int)) (r := r) (fun i hi => ?_) (by rw [List.take_length]; exact hend)
  · simpa using this
  · have hx : xs[i]? = some xs[i] := List.getElem?_eq_getElem hi
    rw [hstep _ i xs[i] hx (by rw [List.length_map, List.length_take]; omega), show (xs.take i).map g ++ [g xs[i]] = (xs.take (i + 1)).map g by rw [List.take_succ_eq_append_getElem hi, List.map_append]; rfl]
/-- A way that nobody holds. -/
def idleF (w : Way) : Held := { State := 0, Gone := 0, Been := List.replicate w.Sections.length false, Shown := false, Timer := 0 }
def beginF (p : Plan) : Frame := { Ok := true, Occ := List.replicate p.Sections.toNat false, Points := p.Switches.map fun _ => ⟨1, 1⟩, Ways := p.Ways.map idleF }
theorem main15 {p : Plan} (hx : fitPlan p) (hs : smPlan p) : ∃ r, f90 p = some r ∧ f91 p = some r ∧ smFrame r := by
  obtain ⟨f, hf⟩ := planO_is p
  unfold f90 f91
  simp only [ok_spec hs hf, ok_impl hs hf, Option.bind_some]
  cases hc : (f.Code == 0) with
  | false =>
    simp only [Bool.not_false, cond_true]
    exact ⟨_, rfl, rfl, ⟨by simp, fun _ _ => trivial⟩, ⟨by simp, fun _ _ => trivial⟩, ⟨by simp, fun _ h => by cases h⟩⟩
  | true =>
    obtain ⟨h1, h2, h3, h4, _, _⟩ := head_facts (plan_head hf hc)
    simp only [Bool.not_true, cond_false]
    have e0 : makeB 1 p.Sections = some p.Sections.toNat := by
      have e : p.Sections = ((p.Sections.toNat : Nat) : Int) := by omega
      rw [e, makeB_ok (by omega)]; rfl
    simp only [e0, Option.bind_some]
    have hw : ∀ (i : Nat) (w : Way), p.Ways[i]? = some w → makeB 1 (w.Sections.length : Int) = some w.Sections.length := fun i w hw => by
      have := (hs.2.1.2 w (List.mem_of_getElem? hw)).1.1
      exact makeB_ok (by omega)
    refine ⟨beginF p, ?_, ?_, ⟨?_, fun _ _ => trivial⟩, ⟨?_, fun _ _ => trivial⟩, ⟨?_, fun w hw => ?_⟩⟩
    · refine gather (F := f90_L1 p p.Sections.toNat) (fun ps i => (ps, i)) p.Switches (fun _ => (⟨1, 1⟩ : Point)) (fun ps i x hx hi => ?_) ?_
      · have hlt := get_lt hx
        unfold f90_L1
        simp only [lt_t hlt, cond_true]
        rw [appB_ok (by simp only [List.length_singleton]; omega), Option.bind_some, w64_nat (by omega)]
      · unfold f90_L1
        simp only [lt_f, cond_false]
        have hin := gather (F := f90_L2 p p.Sections.toNat) (fun ws i => (p.Switches.map fun _ => (⟨1, 1⟩ : Point), ws, i)) p.Ways idleF (r := beginF p) (fun ws i w hw' hi => ?_) ?_
        · rw [hin]; rfl
        · have hlt := get_lt hw'
          unfold f90_L2
          simp only [lt_t hlt, cond_true, getI_nat, hw', Option.bind_some, hw i w hw']
          rw [appB_ok (by simp only [List.length_singleton]; omega), Option.bind_some, w64_nat (by omega)]
          rfl
        · unfold f90_L2
          simp only [lt_f, cond_false]
          rfl
    · refine gather (F := f91_L1 p p.Sections.toNat) (fun ps i => (ps, i)) p.Switches (fun _ => (⟨1, 1⟩ : Point)) (fun ps i x hx hi => ?_) ?_
      · have hlt := get_lt hx
        unfold f91_L1
        simp only [lt_t hlt, cond_true]
        rw [appB_ok (by simp only [List.length_singleton]; omega), Option.bind_some, w64_nat (by omega)]
      · unfold f91_L1
        simp only [lt_f, cond_false]
        have hin := gather (F := f91_L2 p p.Sections.toNat) (fun ws i => (p.Switches.map fun _ => (⟨1, 1⟩ : Point), ws, i)) p.Ways idleF (r := beginF p) (fun ws i w hw' hi => ?_) ?_
        · rw [hin]; rfl
        · have hlt := get_lt hw'
          unfold f91_L2
          simp only [lt_t hlt, cond_true, getI_nat, hw', Option.bind_some, f208, hw i w hw']
          rw [appB_ok (by simp only [List.length_singleton]; omega), Option.bind_some, w64_nat (by omega)]
          rfl
        · unfold f91_L2
          simp only [lt_f, cond_false]
          rfl
    · show (List.replicate _ _).length ≤ _
      rw [List.length_replicate]; omega
    · show (List.map _ _).length ≤ _
      rw [List.length_map]; omega
    · show (List.map _ _).length ≤ _
      rw [List.length_map]; omega
    · obtain ⟨w, hm, rfl⟩ := List.mem_map.1 hw
      refine ⟨?_, fun _ _ => trivial⟩
      show (List.replicate _ _).length ≤ _
      rw [List.length_replicate]; exact (hs.2.1.2 w hm).1.1

def mk_Turn (x : Turn) (k : Int) : Turn := { Switch := k, Lie := k + 1 }
def ck_Turn (x : Turn) : Nat := 1 + (1)
def mk_Way (x : Way) (k : Int) : Way := { Sections := markAll mkI (fun _ => 1) x.Sections k, Lies := markAll mk_Turn ck_Turn x.Lies (k + ((csum (fun _ => 1) x.Sections : Nat) : Int)), Flanks := markAll mk_Turn ck_Turn x.Flanks (k + ((csum (fun _ => 1) x.Sections : Nat) : Int) + ((csum ck_Turn x.Lies : Nat) : Int)), Over := markAll mkI (fun _ => 1) x.Over (k + ((csum (fun _ => 1) x.Sections : Nat) : Int) + ((csum ck_Turn x.Lies : Nat) : Int) + ((csum ck_Turn x.Flanks : Nat) : Int)), Near := markAll mkI (fun _ => 1) x.Near (k + ((csum (fun _ => 1) x.Sections : Nat) : Int) + ((csum ck_Turn x.Lies : Nat) : Int) + ((csum ck_Turn x.Flanks : Nat) : Int) + ((csum (fun _ => 1) x.Over : Nat) : Int)) }
def ck_Way (x : Way) : Nat := csum (fun _ => 1) x.Sections + (csum ck_Turn x.Lies + (csum ck_Turn x.Flanks + (csum (fun _ => 1) x.Over + (csum (fun _ => 1) x.Near))))
def ms_Plan (x : Plan) (k : Int) : Plan := { Sections := x.Sections, Switches := markAll mkI (fun _ => 1) x.Switches k, Ways := markAll mk_Way ck_Way x.Ways (k + ((csum (fun _ => 1) x.Switches : Nat) : Int)), Bars := markAll (markAll mkB (fun _ => 1)) (csum (fun _ => 1)) x.Bars (k + ((csum (fun _ => 1) x.Switches : Nat) : Int) + ((csum ck_Way x.Ways : Nat) : Int)), Hold := x.Hold }
def cs_Plan (x : Plan) : Nat := csum (fun _ => 1) x.Switches + (csum ck_Way x.Ways + (csum (csum (fun _ => 1)) x.Bars))
theorem f31_mark {x : List Int} {k : Int} (hx : (smL (fun _ => True)) x) (h0 : 0 ≤ k) (hb : k + ((csum (fun _ => 1) x : Nat) : Int) ≤ 4611686018427387904) : f31 x k = some (markAll mkI (fun _ => 1) x k, k + ((csum (fun _ => 1) x : Nat) : Int)) := by
  have hl := hx.1
  unfold f31
  refine mark_loop (F := f31_L1) (fun xs k i => (xs, k, i)) mkI (fun _ => 1) (fun _ => True) x.length (fun pre y post k hp h0 hb hn => ?_) (fun ys k hn => ?_) x [] k hx.2 h0 hb rfl
  · have hlen := len_mid hn
    have hb' : k + ((1 : Nat) : Int) ≤ 4611686018427387904 := hb
    unfold f31_L1
    simp (disch := omega) only [lt_mid, cond_true, getI_mid, set_mid, Option.bind_some, w64_up]
    rw [show k + (((fun _ => 1) y : Nat) : Int) = k + 1 from by show k + ((1 : Nat) : Int) = _; omega]
    rfl
  · unfold f31_L1
    simp only [← hn, lt_f, cond_false, Option.map_some]
theorem f301_mark {x : List Turn} {k : Int} (hx : (smL (fun _ => True)) x) (h0 : 0 ≤ k) (hb : k + ((csum ck_Turn x : Nat) : Int) ≤ 4611686018427387904) : f301 x k = some (markAll mk_Turn ck_Turn x k, k + ((csum ck_Turn x : Nat) : Int)) := by
  have hl := hx.1
  unfold f301
  refine mark_loop (F := f301_L1) (fun xs k i => (xs, k, i)) mk_Turn ck_Turn (fun _ => True) x.length (fun pre y post k hp h0 hb hn => ?_) (fun ys k hn => ?_) x [] k hx.2 h0 hb rfl
  · have hlen := len_mid hn
    have hb' : k + ((1 + (1) : Nat) : Int) ≤ 4611686018427387904 := hb
    unfold f301_L1
    simp (disch := omega) only [lt_mid, cond_true, getI_mid, set_mid, Option.bind_some, w64_up]
    rw [show k + ((ck_Turn y : Nat) : Int) = k + 1 + 1 from by show k + ((1 + (1) : Nat) : Int) = _; omega]
    rfl
  · unfold f301_L1
    simp only [← hn, lt_f, cond_false, Option.map_some]
theorem f211_mark {x : List Way} {k : Int} (hx : (smL smWay) x) (h0 : 0 ≤ k) (hb : k + ((csum ck_Way x : Nat) : Int) ≤ 4611686018427387904) : f211 x k = some (markAll mk_Way ck_Way x k, k + ((csum ck_Way x : Nat) : Int)) := by
  have hl := hx.1
  unfold f211
  refine mark_loop (F := f211_L1) (fun xs k i => (xs, k, i)) mk_Way ck_Way smWay x.length (fun pre y post k hp h0 hb hn => ?_) (fun ys k hn => ?_) x [] k hx.2 h0 hb rfl
  · have hlen := len_mid hn
    have hb' : k + ((csum (fun _ => 1) y.Sections + (csum ck_Turn y.Lies + (csum ck_Turn y.Flanks + (csum (fun _ => 1) y.Over + (csum (fun _ => 1) y.Near)))) : Nat) : Int) ≤ 4611686018427387904 := hb
    unfold f211_L1
    simp (disch := omega) only [lt_mid, cond_true, getI_mid, set_mid, Option.bind_some, w64_up, f31_mark (x := y.Sections) hp.1, f301_mark (x := y.Lies) hp.2.1, f301_mark (x := y.Flanks) hp.2.2.1, f31_mark (x := y.Over) hp.2.2.2.1, f31_mark (x := y.Near) hp.2.2.2.2]
    rw [show k + ((ck_Way y : Nat) : Int) = k + ((csum (fun _ => 1) y.Sections : Nat) : Int) + ((csum ck_Turn y.Lies : Nat) : Int) + ((csum ck_Turn y.Flanks : Nat) : Int) + ((csum (fun _ => 1) y.Over : Nat) : Int) + ((csum (fun _ => 1) y.Near : Nat) : Int) from by show k + ((csum (fun _ => 1) y.Sections + (csum ck_Turn y.Lies + (csum ck_Turn y.Flanks + (csum (fun _ => 1) y.Over + (csum (fun _ => 1) y.Near)))) : Nat) : Int) = _; omega]
    rfl
  · unfold f211_L1
    simp only [← hn, lt_f, cond_false, Option.map_some]
theorem f135_mark {x : List Bool} {k : Int} (hx : (smL (fun _ => True)) x) (h0 : 0 ≤ k) (hb : k + ((csum (fun _ => 1) x : Nat) : Int) ≤ 4611686018427387904) : f135 x k = some (markAll mkB (fun _ => 1) x k, k + ((csum (fun _ => 1) x : Nat) : Int)) := by
  have hl := hx.1
  unfold f135
  refine mark_loop (F := f135_L1) (fun xs k i => (xs, k, i)) mkB (fun _ => 1) (fun _ => True) x.length (fun pre y post k hp h0 hb hn => ?_) (fun ys k hn => ?_) x [] k hx.2 h0 hb rfl
  · have hlen := len_mid hn
    have hb' : k + ((1 : Nat) : Int) ≤ 4611686018427387904 := hb
    unfold f135_L1
    simp (disch := omega) only [lt_mid, cond_true, getI_mid, set_mid, Option.bind_some, w64_up]
    rw [show k + (((fun _ => 1) y : Nat) : Int) = k + 1 from by show k + ((1 : Nat) : Int) = _; omega]
    rfl
  · unfold f135_L1
    simp only [← hn, lt_f, cond_false, Option.map_some]
theorem f149_mark {x : List (List Bool)} {k : Int} (hx : (smL (smL (fun _ => True))) x) (h0 : 0 ≤ k) (hb : k + ((csum (csum (fun _ => 1)) x : Nat) : Int) ≤ 4611686018427387904) : f149 x k = some (markAll (markAll mkB (fun _ => 1)) (csum (fun _ => 1)) x k, k + ((csum (csum (fun _ => 1)) x : Nat) : Int)) := by
  have hl := hx.1
  unfold f149
  refine mark_loop (F := f149_L1) (fun xs k i => (xs, k, i)) (markAll mkB (fun _ => 1)) (csum (fun _ => 1)) (smL (fun _ => True)) x.length (fun pre y post k hp h0 hb hn => ?_) (fun ys k hn => ?_) x [] k hx.2 h0 hb rfl
  · have hlen := len_mid hn
    have hb' : k + ((csum (fun _ => 1) y : Nat) : Int) ≤ 4611686018427387904 := hb
    unfold f149_L1
    simp (disch := omega) only [lt_mid, cond_true, getI_mid, set_mid, Option.bind_some, w64_up, f135_mark (x := y) hp]
    rw [show k + (((csum (fun _ => 1)) y : Nat) : Int) = k + ((csum (fun _ => 1) y : Nat) : Int) from by show k + ((csum (fun _ => 1) y : Nat) : Int) = _; omega]
    rfl
  · unfold f149_L1
    simp only [← hn, lt_f, cond_false, Option.map_some]
theorem f93_mark {x : Plan} {k : Int} (hx : smPlan x) (h0 : 0 ≤ k) (hb : k + ((cs_Plan x : Nat) : Int) ≤ 4611686018427387904) : f93 x k = some (ms_Plan x k, k + ((cs_Plan x : Nat) : Int)) := by
  unfold cs_Plan at hb
  unfold f93
  rw [f31_mark (x := x.Switches) (k := k) hx.1 (by omega) (by omega), Option.bind_some]
  dsimp only
  rw [f211_mark (x := x.Ways) (k := k + ((csum (fun _ => 1) x.Switches : Nat) : Int)) hx.2.1 (by omega) (by omega), Option.bind_some]
  dsimp only
  rw [f149_mark (x := x.Bars) (k := k + ((csum (fun _ => 1) x.Switches : Nat) : Int) + ((csum ck_Way x.Ways : Nat) : Int)) hx.2.2 (by omega) (by omega), Option.bind_some]
  dsimp only
  rw [show k + ((cs_Plan x : Nat) : Int) = k + ((csum (fun _ => 1) x.Switches : Nat) : Int) + ((csum ck_Way x.Ways : Nat) : Int) + ((csum (csum (fun _ => 1)) x.Bars : Nat) : Int) from by unfold cs_Plan; omega]
  rfl
theorem ck_Turn_le (x : Turn) (hx : (fun _ => True) x) : ck_Turn x ≤ 2 := by
  unfold ck_Turn
  omega
theorem ck_Way_le (x : Way) (hx : smWay x) : ck_Way x ≤ 7340032 := by
  unfold ck_Way
  have h0 : (csum (fun _ => 1)) x.Sections ≤ 1048576 := by
    have h := (fun _ hx => csum_bd (p := (fun _ => True)) (fun _ _ => Nat.le_refl 1) hx.1 hx.2) x.Sections hx.1
    exact h
  have h1 : (csum ck_Turn) x.Lies ≤ 2097152 := by
    have h := (fun _ hx => csum_bd (p := (fun _ => True)) ck_Turn_le hx.1 hx.2) x.Lies hx.2.1
    exact h
  have h2 : (csum ck_Turn) x.Flanks ≤ 2097152 := by
    have h := (fun _ hx => csum_bd (p := (fun _ => True)) ck_Turn_le hx.1 hx.2) x.Flanks hx.2.2.1
    exact h
  have h3 : (csum (fun _ => 1)) x.Over ≤ 1048576 := by
    have h := (fun _ hx => csum_bd (p := (fun _ => True)) (fun _ _ => Nat.le_refl 1) hx.1 hx.2) x.Over hx.2.2.2.1
    exact h
  have h4 : (csum (fun _ => 1)) x.Near ≤ 1048576 := by
    have h := (fun _ hx => csum_bd (p := (fun _ => True)) (fun _ _ => Nat.le_refl 1) hx.1 hx.2) x.Near hx.2.2.2.2
    exact h
  omega
theorem cs_Plan_le (x : Plan) (hx : smPlan x) : cs_Plan x ≤ 8796094070784 := by
  unfold cs_Plan
  have h0 : (csum (fun _ => 1)) x.Switches ≤ 1048576 := by
    have h := (fun _ hx => csum_bd (p := (fun _ => True)) (fun _ _ => Nat.le_refl 1) hx.1 hx.2) x.Switches hx.1
    exact h
  have h1 : (csum ck_Way) x.Ways ≤ 7696581394432 := by
    have h := (fun _ hx => csum_bd (p := smWay) ck_Way_le hx.1 hx.2) x.Ways hx.2.1
    exact h
  have h2 : (csum (csum (fun _ => 1))) x.Bars ≤ 1099511627776 := by
    have h := (fun _ hx => csum_bd (p := (smL (fun _ => True))) (fun _ hx => csum_bd (p := (fun _ => True)) (fun _ _ => Nat.le_refl 1) hx.1 hx.2) hx.1 hx.2) x.Bars hx.2.2
    exact h
  omega
def mk_Point (x : Point) (k : Int) : Point := { Want := k, Lies := k + 1 }
def ck_Point (x : Point) : Nat := 1 + (1)
def mk_Held (x : Held) (k : Int) : Held := { State := k, Gone := k + 1, Been := markAll mkB (fun _ => 1) x.Been (k + 1 + 1), Shown := (Int.tmod (k + 1 + 1 + ((csum (fun _ => 1) x.Been : Nat) : Int)) 3 == 0), Timer := k + 1 + 1 + ((csum (fun _ => 1) x.Been : Nat) : Int) + 1 }
def ck_Held (x : Held) : Nat := 1 + (1 + (csum (fun _ => 1) x.Been + (1 + (1))))
def ms_Frame (x : Frame) (k : Int) : Frame := { Ok := x.Ok, Occ := markAll mkB (fun _ => 1) x.Occ k, Points := markAll mk_Point ck_Point x.Points (k + ((csum (fun _ => 1) x.Occ : Nat) : Int)), Ways := markAll mk_Held ck_Held x.Ways (k + ((csum (fun _ => 1) x.Occ : Nat) : Int) + ((csum ck_Point x.Points : Nat) : Int)) }
def cs_Frame (x : Frame) : Nat := csum (fun _ => 1) x.Occ + (csum ck_Point x.Points + (csum ck_Held x.Ways))
theorem f212_mark {x : List Point} {k : Int} (hx : (smL (fun _ => True)) x) (h0 : 0 ≤ k) (hb : k + ((csum ck_Point x : Nat) : Int) ≤ 4611686018427387904) : f212 x k = some (markAll mk_Point ck_Point x k, k + ((csum ck_Point x : Nat) : Int)) := by
  have hl := hx.1
  unfold f212
  refine mark_loop (F := f212_L1) (fun xs k i => (xs, k, i)) mk_Point ck_Point (fun _ => True) x.length (fun pre y post k hp h0 hb hn => ?_) (fun ys k hn => ?_) x [] k hx.2 h0 hb rfl
  · have hlen := len_mid hn
    have hb' : k + ((1 + (1) : Nat) : Int) ≤ 4611686018427387904 := hb
    unfold f212_L1
    simp (disch := omega) only [lt_mid, cond_true, getI_mid, set_mid, Option.bind_some, w64_up]
    rw [show k + ((ck_Point y : Nat) : Int) = k + 1 + 1 from by show k + ((1 + (1) : Nat) : Int) = _; omega]
    rfl
  · unfold f212_L1
    simp only [← hn, lt_f, cond_false, Option.map_some]
theorem f213_mark {x : List Held} {k : Int} (hx : (smL smHeld) x) (h0 : 0 ≤ k) (hb : k + ((csum ck_Held x : Nat) : Int) ≤ 4611686018427387904) : f213 x k = some (markAll mk_Held ck_Held x k, k + ((csum ck_Held x : Nat) : Int)) := by
  have hl := hx.1
  unfold f213
  refine mark_loop (F := f213_L1) (fun xs k i => (xs, k, i)) mk_Held ck_Held smHeld x.length (fun pre y post k hp h0 hb hn => ?_) (fun ys k hn => ?_) x [] k hx.2 h0 hb rfl
  · have hlen := len_mid hn
    have hb' : k + ((1 + (1 + (csum (fun _ => 1) y.Been + (1 + (1)))) : Nat) : Int) ≤ 4611686018427387904 := hb
    unfold f213_L1
    simp (disch := omega) only [lt_mid, cond_true, getI_mid, set_mid, Option.bind_some, w64_up, f135_mark (x := y.Been) hp]
    rw [show k + ((ck_Held y : Nat) : Int) = k + 1 + 1 + ((csum (fun _ => 1) y.Been : Nat) : Int) + 1 + 1 from by show k + ((1 + (1 + (csum (fun _ => 1) y.Been + (1 + (1)))) : Nat) : Int) = _; omega]
    rfl
  · unfold f213_L1
    simp only [← hn, lt_f, cond_false, Option.map_some]
theorem f94_mark {x : Frame} {k : Int} (hx : smFrame x) (h0 : 0 ≤ k) (hb : k + ((cs_Frame x : Nat) : Int) ≤ 4611686018427387904) : f94 x k = some (ms_Frame x k, k + ((cs_Frame x : Nat) : Int)) := by
  unfold cs_Frame at hb
  unfold f94
  rw [f135_mark (x := x.Occ) (k := k) hx.1 (by omega) (by omega), Option.bind_some]
  dsimp only
  rw [f212_mark (x := x.Points) (k := k + ((csum (fun _ => 1) x.Occ : Nat) : Int)) hx.2.1 (by omega) (by omega), Option.bind_some]
  dsimp only
  rw [f213_mark (x := x.Ways) (k := k + ((csum (fun _ => 1) x.Occ : Nat) : Int) + ((csum ck_Point x.Points : Nat) : Int)) hx.2.2 (by omega) (by omega), Option.bind_some]
  dsimp only
  rw [show k + ((cs_Frame x : Nat) : Int) = k + ((csum (fun _ => 1) x.Occ : Nat) : Int) + ((csum ck_Point x.Points : Nat) : Int) + ((csum ck_Held x.Ways : Nat) : Int) from by unfold cs_Frame; omega]
  rfl
theorem ck_Point_le (x : Point) (hx : (fun _ => True) x) : ck_Point x ≤ 2 := by
  unfold ck_Point
  omega
theorem ck_Held_le (x : Held) (hx : smHeld x) : ck_Held x ≤ 1048580 := by
  unfold ck_Held
  have h0 : (csum (fun _ => 1)) x.Been ≤ 1048576 := by
    have h := (fun _ hx => csum_bd (p := (fun _ => True)) (fun _ _ => Nat.le_refl 1) hx.1 hx.2) x.Been hx
    exact h
  omega
theorem cs_Frame_le (x : Frame) (hx : smFrame x) : cs_Frame x ≤ 1099518967808 := by
  unfold cs_Frame
  have h0 : (csum (fun _ => 1)) x.Occ ≤ 1048576 := by
    have h := (fun _ hx => csum_bd (p := (fun _ => True)) (fun _ _ => Nat.le_refl 1) hx.1 hx.2) x.Occ hx.1
    exact h
  have h1 : (csum ck_Point) x.Points ≤ 2097152 := by
    have h := (fun _ hx => csum_bd (p := (fun _ => True)) ck_Point_le hx.1 hx.2) x.Points hx.2.1
    exact h
  have h2 : (csum ck_Held) x.Ways ≤ 1099515822080 := by
    have h := (fun _ hx => csum_bd (p := smHeld) ck_Held_le hx.1 hx.2) x.Ways hx.2.2
    exact h
  omega
theorem f137_held {x : List Bool} {k : Int} (hx : (smL (fun _ => True)) x) (h0 : 0 ≤ k) (hb : k + ((csum (fun _ => 1) x : Nat) : Int) ≤ 4611686018427387904) : f137 (markAll mkB (fun _ => 1) x k) k = some (k + ((csum (fun _ => 1) x : Nat) : Int)) := by
  have hl := hx.1
  unfold f137
  refine held_loop (F := f137_L1 (markAll mkB (fun _ => 1) x k)) (fun k i => (k, i)) mkB (fun _ => 1) (fun _ => True) (markAll mkB (fun _ => 1) x k) (fun i y k hp h0 hb hy => ?_) (fun k2 => ?_) x [] k rfl hx.2 h0 hb
  · have hlen := get_lt hy
    have hlt := lt_t hlen
    rw [markAll_len] at hlen
    have hb' : k + ((1 : Nat) : Int) ≤ 4611686018427387904 := hb
    unfold f137_L1
    simp (disch := omega) only [hlt, cond_true, getI_nat, hy, Option.bind_some, mkB, bne_self_eq_false, beq_self_eq_true, Bool.not_true, cond_false, w64_up, ltz]
    rw [show k + (((fun _ => 1) y : Nat) : Int) = k + 1 from by show k + ((1 : Nat) : Int) = _; omega]
    rfl
  · unfold f137_L1
    simp only [lt_f, cond_false, Option.map_some]
theorem f214_held {x : List Point} {k : Int} (hx : (smL (fun _ => True)) x) (h0 : 0 ≤ k) (hb : k + ((csum ck_Point x : Nat) : Int) ≤ 4611686018427387904) : f214 (markAll mk_Point ck_Point x k) k = some (k + ((csum ck_Point x : Nat) : Int)) := by
  have hl := hx.1
  unfold f214
  refine held_loop (F := f214_L1 (markAll mk_Point ck_Point x k)) (fun k i => (k, i)) mk_Point ck_Point (fun _ => True) (markAll mk_Point ck_Point x k) (fun i y k hp h0 hb hy => ?_) (fun k2 => ?_) x [] k rfl hx.2 h0 hb
  · have hlen := get_lt hy
    have hlt := lt_t hlen
    rw [markAll_len] at hlen
    have hb' : k + ((1 + (1) : Nat) : Int) ≤ 4611686018427387904 := hb
    unfold f214_L1
    simp (disch := omega) only [hlt, cond_true, getI_nat, hy, Option.bind_some, mk_Point, bne_self_eq_false, beq_self_eq_true, Bool.not_true, cond_false, w64_up, ltz]
    rw [show k + ((ck_Point y : Nat) : Int) = k + 1 + 1 from by show k + ((1 + (1) : Nat) : Int) = _; omega]
    rfl
  · unfold f214_L1
    simp only [lt_f, cond_false, Option.map_some]
theorem f215_held {x : List Held} {k : Int} (hx : (smL smHeld) x) (h0 : 0 ≤ k) (hb : k + ((csum ck_Held x : Nat) : Int) ≤ 4611686018427387904) : f215 (markAll mk_Held ck_Held x k) k = some (k + ((csum ck_Held x : Nat) : Int)) := by
  have hl := hx.1
  unfold f215
  refine held_loop (F := f215_L1 (markAll mk_Held ck_Held x k)) (fun k i => (k, i)) mk_Held ck_Held smHeld (markAll mk_Held ck_Held x k) (fun i y k hp h0 hb hy => ?_) (fun k2 => ?_) x [] k rfl hx.2 h0 hb
  · have hlen := get_lt hy
    have hlt := lt_t hlen
    rw [markAll_len] at hlen
    have hb' : k + ((1 + (1 + (csum (fun _ => 1) y.Been + (1 + (1)))) : Nat) : Int) ≤ 4611686018427387904 := hb
    unfold f215_L1
    simp (disch := omega) only [hlt, cond_true, getI_nat, hy, Option.bind_some, mk_Held, bne_self_eq_false, beq_self_eq_true, Bool.not_true, cond_false, w64_up, ltz, f137_held (x := y.Been) hp]
    rw [show k + ((ck_Held y : Nat) : Int) = k + 1 + 1 + ((csum (fun _ => 1) y.Been : Nat) : Int) + 1 + 1 from by show k + ((1 + (1 + (csum (fun _ => 1) y.Been + (1 + (1)))) : Nat) : Int) = _; omega]
    rfl
  · unfold f215_L1
    simp only [lt_f, cond_false, Option.map_some]
theorem f95_held {x : Frame} {k : Int} (hx : smFrame x) (h0 : 0 ≤ k) (hb : k + ((cs_Frame x : Nat) : Int) ≤ 4611686018427387904) : f95 (ms_Frame x k) k = some (k + ((cs_Frame x : Nat) : Int)) := by
  unfold cs_Frame at hb
  unfold f95 ms_Frame
  dsimp only
  rw [f137_held (x := x.Occ) (k := k) hx.1 (by omega) (by omega), Option.bind_some, ltz (by omega), cond_false]
  rw [f214_held (x := x.Points) (k := k + ((csum (fun _ => 1) x.Occ : Nat) : Int)) hx.2.1 (by omega) (by omega), Option.bind_some, ltz (by omega), cond_false]
  rw [f215_held (x := x.Ways) (k := k + ((csum (fun _ => 1) x.Occ : Nat) : Int) + ((csum ck_Point x.Points : Nat) : Int)) hx.2.2 (by omega) (by omega), Option.bind_some, ltz (by omega), cond_false]
  rw [show k + ((cs_Frame x : Nat) : Int) = k + ((csum (fun _ => 1) x.Occ : Nat) : Int) + ((csum ck_Point x.Points : Nat) : Int) + ((csum ck_Held x.Ways : Nat) : Int) from by unfold cs_Frame; omega]
theorem law15 (aAP0 : Plan) (haAP0 : fitPlan aAP0) : f15 aAP0 = some true := by
  unfold f15
  obtain ⟨v0, e0, a0, b0⟩ := f51_sz (x := aAP0) (left := 1048576) (by omega) (by omega) haAP0
  rw [e0, Option.bind_some]
  rcases Bool.eq_false_or_eq_true (decide (v0 < (0 : Int))) with hb0 | hb0
  · rw [hb0]; rfl
  rw [hb0, cond_false]; simp only [decide_eq_false_iff_not] at hb0
  have saAP0 := b0.resolve_left hb0
  obtain ⟨r, m1, m2, m3⟩ := main15 haAP0 saAP0
  have u0 : cs_Plan aAP0 ≤ 8796094070784 := by
    have h := cs_Plan_le aAP0 saAP0
    exact h
  have k0 := f93_mark (x := aAP0) (k := (1 : Int)) saAP0 (by omega) (by omega)
  have u1 : cs_Frame r ≤ 1099518967808 := by
    have h := cs_Frame_le r m3
    exact h
  have k1 := f94_mark (x := r) (k := (1 : Int)) m3 (by omega) (by omega)
  have j1 := f95_held (x := r) (k := (1 : Int)) m3 (by omega) (by omega)
  simp only [f53_to (x := aAP0) saAP0, f56_eq (x := aAP0) saAP0, f92_eq (x := r) m3, k0, ltz (show (0:Int) ≤ (1 : Int) + ((cs_Plan aAP0 : Nat) : Int) by omega), k1, ltz (show (0:Int) ≤ (1 : Int) + ((cs_Frame r : Nat) : Int) by omega), j1, Option.bind_some, m1, m2, bne_self_eq_false, beq_self_eq_true, Bool.not_true, cond_false]

end
end Go.Proofs.Ytkfekjcahepfnaa.K
