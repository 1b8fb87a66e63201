/-
  The plain part of the law FnExactDoCount: on typed values it returns true at every input. No conditions.
-/
import Derived.Test.YtkfekjcahepfnaaDDc
set_option linter.unusedVariables false
set_option linter.unusedSimpArgs false
set_option maxRecDepth 100000
namespace Go.Proofs.Ytkfekjcahepfnaa.K
noncomputable section
open Go.ChangeShapes Go.WideShapes Go.ChangeAt Go.RowKit
abbrev fitCounter (x : Counter) : Prop := fitsI x.From ∧ fitsI x.To
abbrev fitLayout (x : Layout) : Prop := fitsI x.Sections ∧ (fitsL fitCounter) x.Counters
abbrev smLayout (x : Layout) : Prop := (smL (fun _ => True)) x.Counters
abbrev fitSection (x : Section) : Prop := fitsI x.Told ∧ fitsI x.Count ∧ (fun _ => True) x.Lost ∧ (fun _ => True) x.Sweep ∧ fitsI x.Last
abbrev fitCountState (x : CountState) : Prop := (fun _ => True) x.Ok ∧ (fitsL fitSection) x.Sections ∧ (fitsL (fun _ => True)) x.Dead
abbrev smCountState (x : CountState) : Prop := (smL (fun _ => True)) x.Sections ∧ (smL (fun _ => True)) x.Dead
abbrev fitCountDone (x : CountDone) : Prop := fitsI x.Code ∧ fitCountState x.State
abbrev smCountDone (x : CountDone) : Prop := smCountState x.State
abbrev fitCountEvent (x : CountEvent) : Prop := fitsI x.Op ∧ fitsI x.Of ∧ fitsI x.Dir
theorem rd3 : Reads Try.prog 3 Int fitsI := reads_int Try.underlying3
theorem rd281 : Reads Try.prog 281 Counter fitCounter := by
  intro K enc W sp fuel cs d ps h
  obtain ⟨fu, hl, hf⟩ := trod_struct Try.underlying281 h
  have hl : cs.length = 2 := hl
  obtain ⟨_, _, h0⟩ := hf _ (List.Mem.head _)
  obtain ⟨x0, r0, g0⟩ := rd3 _ _ _ _ _ _ _ h0
  obtain ⟨_, _, h1⟩ := hf _ (List.Mem.tail _ (List.Mem.head _))
  obtain ⟨x1, r1, g1⟩ := rd3 _ _ _ _ _ _ _ h1
  exact ⟨⟨x0, x1⟩, fld (off := 0) (sz := 1) r0 (fldLast (sz := 1) hl r1), g0, g1⟩
theorem rd22 : Reads Try.prog 22 (List Counter) (fitsL fitCounter) := reads_slice Try.underlying22 rfl rd281
theorem rd24 : Reads Try.prog 24 Layout fitLayout := by
  intro K enc W sp fuel cs d ps h
  obtain ⟨fu, hl, hf⟩ := trod_struct Try.underlying24 h
  have hl : cs.length = 2 := hl
  obtain ⟨_, _, h0⟩ := hf _ (List.Mem.head _)
  obtain ⟨x0, r0, g0⟩ := rd3 _ _ _ _ _ _ _ h0
  obtain ⟨_, _, h1⟩ := hf _ (List.Mem.tail _ (List.Mem.head _))
  obtain ⟨x1, r1, g1⟩ := rd22 _ _ _ _ _ _ _ h1
  exact ⟨⟨x0, x1⟩, fld (off := 0) (sz := 1) r0 (fldLast (sz := 1) hl r1), g0, g1⟩
theorem rd4 : Reads Try.prog 4 Bool (fun _ => True) := reads_bool Try.underlying4
theorem rd315 : Reads Try.prog 315 Section fitSection := by
  intro K enc W sp fuel cs d ps h
  obtain ⟨fu, hl, hf⟩ := trod_struct Try.underlying315 h
  have hl : cs.length = 5 := hl
  obtain ⟨_, _, h0⟩ := hf _ (List.Mem.head _)
  obtain ⟨x0, r0, g0⟩ := rd3 _ _ _ _ _ _ _ h0
  obtain ⟨_, _, h1⟩ := hf _ (List.Mem.tail _ (List.Mem.head _))
  obtain ⟨x1, r1, g1⟩ := rd3 _ _ _ _ _ _ _ h1
  obtain ⟨_, _, h2⟩ := hf _ (List.Mem.tail _ (List.Mem.tail _ (List.Mem.head _)))
  obtain ⟨x2, r2, g2⟩ := rd4 _ _ _ _ _ _ _ h2
  obtain ⟨_, _, h3⟩ := hf _ (List.Mem.tail _ (List.Mem.tail _ (List.Mem.tail _ (List.Mem.head _))))
  obtain ⟨x3, r3, g3⟩ := rd4 _ _ _ _ _ _ _ h3
  obtain ⟨_, _, h4⟩ := hf _ (List.Mem.tail _ (List.Mem.tail _ (List.Mem.tail _ (List.Mem.tail _ (List.Mem.head _)))))
  obtain ⟨x4, r4, g4⟩ := rd3 _ _ _ _ _ _ _ h4
  exact ⟨⟨x0, x1, x2, x3, x4⟩, fld (off := 0) (sz := 1) r0 (fld (off := 1) (sz := 1) r1 (fld (off := 2) (sz := 1) r2 (fld (off := 3) (sz := 1) r3 (fldLast (sz := 1) hl r4)))), g0, g1, g2, g3, g4⟩
theorem rd103 : Reads Try.prog 103 (List Section) (fitsL fitSection) := reads_slice Try.underlying103 rfl rd315
theorem rd38 : Reads Try.prog 38 (List Bool) (fitsL (fun _ => True)) := reads_slice Try.underlying38 rfl rd4
theorem rd105 : Reads Try.prog 105 CountState fitCountState := by
  intro K enc W sp fuel cs d ps h
  obtain ⟨fu, hl, hf⟩ := trod_struct Try.underlying105 h
  have hl : cs.length = 3 := hl
  obtain ⟨_, _, h0⟩ := hf _ (List.Mem.head _)
  obtain ⟨x0, r0, g0⟩ := rd4 _ _ _ _ _ _ _ h0
  obtain ⟨_, _, h1⟩ := hf _ (List.Mem.tail _ (List.Mem.head _))
  obtain ⟨x1, r1, g1⟩ := rd103 _ _ _ _ _ _ _ h1
  obtain ⟨_, _, h2⟩ := hf _ (List.Mem.tail _ (List.Mem.tail _ (List.Mem.head _)))
  obtain ⟨x2, r2, g2⟩ := rd38 _ _ _ _ _ _ _ h2
  exact ⟨⟨x0, x1, x2⟩, fld (off := 0) (sz := 1) r0 (fld (off := 1) (sz := 1) r1 (fldLast (sz := 1) hl r2)), g0, g1, g2⟩
theorem rd107 : Reads Try.prog 107 CountEvent fitCountEvent := by
  intro K enc W sp fuel cs d ps h
  obtain ⟨fu, hl, hf⟩ := trod_struct Try.underlying107 h
  have hl : cs.length = 3 := hl
  obtain ⟨_, _, h0⟩ := hf _ (List.Mem.head _)
  obtain ⟨x0, r0, g0⟩ := rd3 _ _ _ _ _ _ _ h0
  obtain ⟨_, _, h1⟩ := hf _ (List.Mem.tail _ (List.Mem.head _))
  obtain ⟨x1, r1, g1⟩ := rd3 _ _ _ _ _ _ _ h1
  obtain ⟨_, _, h2⟩ := hf _ (List.Mem.tail _ (List.Mem.tail _ (List.Mem.head _)))
  obtain ⟨x2, r2, g2⟩ := rd3 _ _ _ _ _ _ _ h2
  exact ⟨⟨x0, x1, x2⟩, fld (off := 0) (sz := 1) r0 (fld (off := 1) (sz := 1) r1 (fldLast (sz := 1) hl r2)), g0, g1, g2⟩
theorem f125_sz {x : List Counter} {left : Int} (h0 : 0 ≤ left) (h1 : left ≤ 1048576) (hx : (fitsL fitCounter) x) : ∃ v, f125 x left = some v ∧ v ≤ left ∧ (v < 0 ∨ (smL (fun _ => True)) x) := by
  unfold f125
  obtain ⟨v, e1, e2, e3⟩ := sz_flat (xs := x) h0 h1 hx.1
  exact ⟨v, e1, e2, e3.imp id fun h => ⟨h.1, fun _ _ => trivial⟩⟩
theorem f24_sz {x : Layout} {left : Int} (h0 : 0 ≤ left) (h1 : left ≤ 1048576) (hx : fitLayout x) : ∃ v, f24 x left = some v ∧ v ≤ left ∧ (v < 0 ∨ smLayout x) := by
  unfold f24
  obtain ⟨v0, e0, a0, b0⟩ := f125_sz (x := x.Counters) (left := left) (by omega) (by omega) hx.2
  rw [e0, Option.bind_some]
  rcases Bool.eq_false_or_eq_true (decide (v0 < (0 : Int))) with hb0 | hb0
  · rw [hb0]; exact ⟨_, rfl, by omega, .inl (by decide)⟩
  rw [hb0, cond_false]; simp only [decide_eq_false_iff_not] at hb0
  exact ⟨_, rfl, by omega, .inr (b0.resolve_left hb0)⟩
theorem f182_sz {x : List Section} {left : Int} (h0 : 0 ≤ left) (h1 : left ≤ 1048576) (hx : (fitsL fitSection) x) : ∃ v, f182 x left = some v ∧ v ≤ left ∧ (v < 0 ∨ (smL (fun _ => True)) x) := by
  unfold f182
  obtain ⟨v, e1, e2, e3⟩ := sz_flat (xs := x) h0 h1 hx.1
  exact ⟨v, e1, e2, e3.imp id fun h => ⟨h.1, fun _ _ => trivial⟩⟩
theorem f139_sz {x : List Bool} {left : Int} (h0 : 0 ≤ left) (h1 : left ≤ 1048576) (hx : (fitsL (fun _ => True)) x) : ∃ v, f139 x left = some v ∧ v ≤ left ∧ (v < 0 ∨ (smL (fun _ => True)) x) := by
  unfold f139
  obtain ⟨v, e1, e2, e3⟩ := sz_flat (xs := x) h0 h1 hx.1
  exact ⟨v, e1, e2, e3.imp id fun h => ⟨h.1, fun _ _ => trivial⟩⟩
theorem f69_sz {x : CountState} {left : Int} (h0 : 0 ≤ left) (h1 : left ≤ 1048576) (hx : fitCountState x) : ∃ v, f69 x left = some v ∧ v ≤ left ∧ (v < 0 ∨ smCountState x) := by
  unfold f69
  obtain ⟨v0, e0, a0, b0⟩ := f182_sz (x := x.Sections) (left := left) (by omega) (by omega) hx.2.1
  rw [e0, Option.bind_some]
  rcases Bool.eq_false_or_eq_true (decide (v0 < (0 : Int))) with hb0 | hb0
  · rw [hb0]; exact ⟨_, rfl, by omega, .inl (by decide)⟩
  rw [hb0, cond_false]; simp only [decide_eq_false_iff_not] at hb0
  obtain ⟨v1, e1, a1, b1⟩ := f139_sz (x := x.Dead) (left := v0) (by omega) (by omega) hx.2.2
  rw [e1, Option.bind_some]
  rcases Bool.eq_false_or_eq_true (decide (v1 < (0 : Int))) with hb1 | hb1
  · rw [hb1]; exact ⟨_, rfl, by omega, .inl (by decide)⟩
  rw [hb1, cond_false]; simp only [decide_eq_false_iff_not] at hb1
  exact ⟨_, rfl, by omega, .inr ⟨b0.resolve_left hb0, b1.resolve_left hb1⟩⟩
theorem f249_to {x : Counter} (hx : (fun _ => True) x) : f249 x = some x := by
  unfold f249
  rfl
theorem f128_to {x : List Counter} (hx : (smL (fun _ => True)) x) : f128 x = some x := by
  have hl := hx.1
  unfold f128
  rw [makeB_ok (by omega), Option.bind_some]
  have := fill x (fun y => y) (⟨0, 0⟩ : Counter) (F := f128_L1 x) (fun ys i y hi hy => ?_) (fun ys => ?_)
  · rw [List.map_id'] at this; exact this
  · have hlt := get_lt hi
    unfold f128_L1
    have hg := f249_to (x := y) (hx.2 _ (List.mem_of_getElem? hi))
    simp only [lt_t (get_lt hi), cond_true, getI_nat, hi, Option.bind_some, hg]
    rw [List.getElem?_eq_getElem (by omega), Option.bind_some, w64_nat (by omega)]
    rfl
  · unfold f128_L1
    simp only [lt_f, cond_false, Option.map_some]
theorem f26_to {x : Layout} (hx : smLayout x) : f26 x = some x := by
  unfold f26
  rw [f128_to (x := x.Counters) hx]
  rfl
theorem f275_to {x : Section} (hx : (fun _ => True) x) : f275 x = some x := by
  unfold f275
  rfl
theorem f189_to {x : List Section} (hx : (smL (fun _ => True)) x) : f189 x = some x := by
  have hl := hx.1
  unfold f189
  rw [makeB_ok (by omega), Option.bind_some]
  have := fill x (fun y => y) (⟨0, 0, false, false, 0⟩ : Section) (F := f189_L1 x) (fun ys i y hi hy => ?_) (fun ys => ?_)
  · rw [List.map_id'] at this; exact this
  · have hlt := get_lt hi
    unfold f189_L1
    have hg := f275_to (x := y) (hx.2 _ (List.mem_of_getElem? hi))
    simp only [lt_t (get_lt hi), cond_true, getI_nat, hi, Option.bind_some, hg]
    rw [List.getElem?_eq_getElem (by omega), Option.bind_some, w64_nat (by omega)]
    rfl
  · unfold f189_L1
    simp only [lt_f, cond_false, Option.map_some]
theorem f143_to {x : List Bool} (hx : (smL (fun _ => True)) x) : f143 x = some x := by
  have hl := hx.1
  unfold f143
  rw [makeB_ok (by omega), Option.bind_some]
  have := fill x (fun y => y) (false : Bool) (F := f143_L1 x) (fun ys i y hi hy => ?_) (fun ys => ?_)
  · rw [List.map_id'] at this; exact this
  · have hlt := get_lt hi
    unfold f143_L1
    simp only [lt_t (get_lt hi), cond_true, getI_nat, hi, Option.bind_some]
    rw [List.getElem?_eq_getElem (by omega), Option.bind_some, w64_nat (by omega)]
    rfl
  · unfold f143_L1
    simp only [lt_f, cond_false, Option.map_some]
theorem f71_to {x : CountState} (hx : smCountState x) : f71 x = some x := by
  unfold f71
  rw [f189_to (x := x.Sections) hx.1, f143_to (x := x.Dead) hx.2]
  rfl
theorem f72_to {x : CountEvent} (hx : (fun _ => True) x) : f72 x = some x := by
  unfold f72
  rfl
theorem f251_eq {x : Counter} (hx : (fun _ => True) x) : f251 x x = some true := by
  unfold f251
  simp only [bne_self_eq_false, beq_self_eq_true, Bool.not_true, cond_false]
theorem f130_eq {x : List Counter} (hx : (smL (fun _ => True)) x) : f130 x x = some true := by
  unfold f130
  simp only [bne_self_eq_false, cond_false]
  refine eq_all (F := f130_L1 x x) hx.1 (fun i y hi => ?_) ?_
  · unfold f130_L1
    have hg := f251_eq (x := y) (hx.2 _ (List.mem_of_getElem? hi))
    simp only [lt_t (get_lt hi), cond_true, getI_nat, hi, Option.bind_some, hg, Bool.not_true, cond_false]
  · unfold f130_L1
    simp only [lt_f, cond_false, Option.map_some]
theorem f29_eq {x : Layout} (hx : smLayout x) : f29 x x = some true := by
  unfold f29
  simp only [bne_self_eq_false, beq_self_eq_true, Bool.not_true, cond_false, f130_eq (x := x.Counters) hx, Option.bind_some]
theorem f252_eq {x : Section} (hx : (fun _ => True) x) : f252 x x = some true := by
  unfold f252
  simp only [bne_self_eq_false, beq_self_eq_true, Bool.not_true, cond_false]
theorem f132_eq {x : List Section} (hx : (smL (fun _ => True)) x) : f132 x x = some true := by
  unfold f132
  simp only [bne_self_eq_false, cond_false]
  refine eq_all (F := f132_L1 x x) hx.1 (fun i y hi => ?_) ?_
  · unfold f132_L1
    have hg := f252_eq (x := y) (hx.2 _ (List.mem_of_getElem? hi))
    simp only [lt_t (get_lt hi), cond_true, getI_nat, hi, Option.bind_some, hg, Bool.not_true, cond_false]
  · unfold f132_L1
    simp only [lt_f, cond_false, Option.map_some]
theorem f133_eq {x : List Bool} (hx : (smL (fun _ => True)) x) : f133 x x = some true := by
  unfold f133
  simp only [bne_self_eq_false, cond_false]
  refine eq_all (F := f133_L1 x x) hx.1 (fun i y hi => ?_) ?_
  · unfold f133_L1
    simp only [lt_t (get_lt hi), cond_true, getI_nat, hi, Option.bind_some, bne_self_eq_false, beq_self_eq_true, Bool.not_true, cond_false]
  · unfold f133_L1
    simp only [lt_f, cond_false, Option.map_some]
theorem f35_eq {x : CountState} (hx : smCountState x) : f35 x x = some true := by
  unfold f35
  simp only [bne_self_eq_false, beq_self_eq_true, Bool.not_true, cond_false, f132_eq (x := x.Sections) hx.1, f133_eq (x := x.Dead) hx.2, Option.bind_some]
theorem f74_eq {x : CountDone} (hx : smCountDone x) : f74 x x = some true := by
  unfold f74
  simp only [bne_self_eq_false, beq_self_eq_true, Bool.not_true, cond_false, f35_eq (x := x.State) hx, Option.bind_some]
theorem layoutOk_eq {x : Layout} (hx : fitLayout x) (hs : smLayout x) : ∃ r, f126 x = some r ∧ f129 x = some r ∧ (r = 0 → 1 ≤ x.Sections ∧ x.Sections ≤ 60 ∧ x.Counters.length ≤ 120) := by
  have hl : x.Counters.length ≤ 1048576 := hs.1
  unfold f126 f129
  simp only [f127, Option.bind_some]
  have e1 : (!(decide (x.Sections ≥ 1) && decide (x.Sections ≤ 60)) || decide ((x.Counters.length : Int) > 120)) = ((decide (x.Sections < 1) || decide (x.Sections > 60)) || decide ((x.Counters.length : Int) > 120)) := by
    have a1 : decide (x.Sections < 1) = !decide (x.Sections ≥ 1) := by rw [← decide_not]; congr 1; apply propext; omega
    have a2 : decide (x.Sections > 60) = !decide (x.Sections ≤ 60) := by rw [← decide_not]; congr 1; apply propext; omega
    rw [a1, a2, Bool.not_and]
  rw [e1]
  rcases Bool.eq_false_or_eq_true ((decide (x.Sections < 1) || decide (x.Sections > 60)) || decide ((x.Counters.length : Int) > 120)) with hb | hb
  · rw [hb]
    exact ⟨1, rfl, rfl, fun h => by cases h⟩
  · rw [hb]
    simp only [Bool.or_eq_false_iff, decide_eq_false_iff_not] at hb
    have e2 : f126_L1 x = f129_L1 x := by
      funext s
      unfold f126_L1 f129_L1
      simp only [f127, f250, Option.bind_some]
      rw [w64_id ⟨by omega, by omega⟩]
      have e3 : ∀ y : Int, decide (y ≤ x.Sections - 1) = decide (y < x.Sections) := by intro y; congr 1; apply propext; omega
      simp only [e3]
    rw [e2]
    simp only [cond_false]
    have key : ∃ r, loopO (f129_L1 x) (0 : Int) = some r ∧ True := by
      refine loopO_ex (F := f129_L1 x) (fun _ => True) x.Counters.length (fun i => (i : Int)) (fun i hi => ?_) ?_
      · unfold f129_L1
        simp only [lt_t hi, cond_true, getI_ok hi, Option.bind_some, f250]
        rw [w64_nat (by omega)]
        generalize (decide (x.Counters[i].From ≥ -1) && decide (x.Counters[i].From < x.Sections)) = b1
        generalize (decide (x.Counters[i].To ≥ -1) && decide (x.Counters[i].To < x.Sections)) = b2
        cases b1 <;> cases b2 <;> cases (x.Counters[i].From == x.Counters[i].To) <;> simp
      · unfold f129_L1
        exact ⟨0, by simp only [lt_f, cond_false, Option.map_some], trivial⟩
    obtain ⟨r, h1, _⟩ := key
    exact ⟨r, h1, h1, fun _ => by omega⟩
/-- Does a counter touch a section? -/
def touches (l : Layout) (sec : Int) (i : Nat) : Bool := match l.Counters[i]? with | some c => (c.From == sec) || (c.To == sec) | none => false
theorem specAround_eq {l : Layout} {sec : Int} (hx : fitLayout l) (hs : smLayout l) (h0 : f126 l = some 0) (h1 : 0 ≤ sec) (h2 : sec < l.Sections) : f25 l sec = some (((List.range l.Counters.length).filter (touches l sec)).map fun i : Nat => (i : Int)) := by
  obtain ⟨r, q1, q2, q3⟩ := layoutOk_eq hx hs
  rw [h0] at q1
  simp only [Option.some.injEq] at q1
  obtain ⟨q4, q5, q6⟩ := q3 q1.symm
  unfold f25
  rw [h0, Option.bind_some]
  simp only [f127, Option.bind_some, bne_self_eq_false, cond_false]
  rw [le_pred ⟨by omega, by omega⟩]
  have e1 : decide (sec ≥ 0) = true := by rw [decide_eq_true_eq]; exact h1
  have e2 : decide (sec < l.Sections) = true := by rw [decide_eq_true_eq]; exact h2
  simp only [e1, e2, Bool.and_self, Bool.not_true, cond_false]
  have := loopO_run (F := f25_L1 l sec) l.Counters.length (fun i => (((List.range i).filter (touches l sec)).map (fun i : Nat => (i : Int)), (i : Int))) (r := ((List.range l.Counters.length).filter (touches l sec)).map fun i : Nat => (i : Int)) (fun i hi => ?_) ?_
  · simpa using this
  · unfold f25_L1
    simp only [lt_t hi, cond_true, getI_ok hi, Option.bind_some]
    have hlen : (((List.range i).filter (touches l sec)).map (fun i : Nat => (i : Int))).length ≤ i := by
      rw [List.length_map]
      exact Nat.le_trans (List.length_filter_le _ _) (by simp)
    have ht : touches l sec i = ((l.Counters[i].From == sec) || (l.Counters[i].To == sec)) := by
      unfold touches
      rw [List.getElem?_eq_getElem hi]
    rw [← ht, List.range_succ, List.filter_append, List.map_append]
    cases hb : touches l sec i with
    | true =>
      simp only [cond_true]
      rw [appB_ok (by simp only [List.length_singleton]; omega), Option.bind_some]
      simp only [f25_k2, w64_nat (show i < 9223372036854775807 by omega), List.filter_cons, hb, if_true, List.filter_nil, List.map_cons, List.map_nil]
    | false =>
      simp only [cond_false, f25_k2, w64_nat (show i < 9223372036854775807 by omega), List.filter_cons, hb, Bool.false_eq_true, if_false, List.filter_nil, List.map_nil, List.append_nil]
  · unfold f25_L1
    simp only [lt_f, cond_false, Option.map_some]
/-- Is there a dead counter at a section? -/
def deadAt (l : Layout) (d : List Bool) (sec : Int) : Bool := (List.range l.Counters.length).any fun i => touches l sec i && d.getD i false
theorem l15dead_eq {l : Layout} {d : List Bool} {sec : Int} (hx : fitLayout l) (hs : smLayout l) (h0 : f126 l = some 0) (h1 : 0 ≤ sec) (h2 : sec < l.Sections) (hd : d.length = l.Counters.length) : f187 l d sec = some (deadAt l d sec) := by
  unfold f187
  rw [specAround_eq hx hs h0 h1 h2, Option.bind_some]
  have hs1 := hs.1
  have hlen : (((List.range l.Counters.length).filter (touches l sec)).map (fun i : Nat => (i : Int))).length ≤ l.Counters.length := by
    rw [List.length_map]
    exact Nat.le_trans (List.length_filter_le _ _) (by simp)
  rw [loop_any (((List.range l.Counters.length).filter (touches l sec)).map (fun i : Nat => (i : Int))) (fun c => d.getD c.toNat false) ?_ ?_]
  · exact congrArg some (rng_any l.Counters.length (touches l sec) (fun j => d.getD j false))
  · intro i c hc
    have hi := get_lt hc
    have hm := List.mem_of_getElem? hc
    simp only [List.mem_map, List.mem_filter, List.mem_range] at hm
    obtain ⟨j, ⟨hj, _⟩, rfl⟩ := hm
    unfold f187_L1
    have hjd : j < d.length := by omega
    simp only [lt_t hi, cond_true, getI_nat, hc, Option.bind_some, List.getElem?_eq_getElem hjd, Int.toNat_natCast, List.getD_eq_getElem?_getD, Option.getD_some, w64_nat (show i < 9223372036854775807 by omega)]
    cases d[j] <;> simp
  · unfold f187_L1
    simp only [lt_f, cond_false, Option.map_some]
theorem dead_eq {l : Layout} {s : CountState} {sec : Int} (hs : smLayout l) (hd : s.Dead.length = l.Counters.length) : f277 l s sec = some (deadAt l s.Dead sec) := by
  have hs1 := hs.1
  unfold f277
  rw [loop_anyI l.Counters.length (fun i => touches l sec i && s.Dead.getD i false) ?_ ?_]
  · rfl
  · intro i hi
    unfold f277_L1
    have hjd : i < s.Dead.length := by omega
    have ht : touches l sec i = ((l.Counters[i].From == sec) || (l.Counters[i].To == sec)) := by
      unfold touches
      rw [List.getElem?_eq_getElem hi]
    simp only [lt_t hi, cond_true, getI_ok hi, getI_ok hjd, Option.bind_some, List.getElem?_eq_getElem hjd, List.getD_eq_getElem?_getD, Option.getD_some, w64_nat (show i < 9223372036854775807 by omega), ← ht]
    cases s.Dead[i] <;> cases touches l sec i <;> simp
  · unfold f277_L1
    simp only [lt_f, cond_false, Option.map_some]
theorem countOk_eq {l : Layout} {s : CountState} (hx : fitLayout l) (hs : smLayout l) (hxs : fitCountState s) (hss : smCountState s) : ∃ r, f183 l s = some r ∧ f190 l s = some r := by
  obtain ⟨r, q1, q2, q3⟩ := layoutOk_eq hx hs
  unfold f183 f190
  rw [q1, q2, Option.bind_some, Option.bind_some]
  rcases Bool.eq_false_or_eq_true ((((r != (0 : Int)) || !s.Ok) || ((s.Sections.length : Int) != l.Sections)) || ((s.Dead.length : Int) != (l.Counters.length : Int))) with hb | hb
  · rw [hb]; exact ⟨false, rfl, rfl⟩
  rw [hb]
  simp only [Bool.or_eq_false_iff, bne_eq_false_iff_eq, Bool.not_eq_false'] at hb
  obtain ⟨⟨⟨b1, b2⟩, b3⟩, b4⟩ := hb
  subst b1
  have hd : s.Dead.length = l.Counters.length := by omega
  simp only [cond_false]
  have hs1 := hss.1.1
  have step : ∀ (i : Nat) (hi : i < s.Sections.length), f183_L1 l s (i : Int) = f190_L1 l s (i : Int) ∧ (f190_L1 l s (i : Int) = some (.inl ((i + 1 : Nat) : Int)) ∨ ∃ r, f190_L1 l s (i : Int) = some (.inr r)) := by
    intro i hi
    have d1 := l15dead_eq (d := s.Dead) hx hs q1 (show (0 : Int) ≤ (i : Int) by omega) (show (i : Int) < l.Sections by omega) hd
    have d2 := dead_eq (s := s) (sec := (i : Int)) hs hd
    unfold f183_L1 f190_L1
    simp only [lt_t hi, cond_true, getI_ok hi, Option.bind_some, f127, f188, f276, d1, d2, w64_nat (show i < 9223372036854775807 by omega)]
    generalize s.Sections[i] = c
    generalize deadAt l s.Dead (i : Int) = dd
    have n1 : decide (c.Count < -1000000) = !decide (c.Count ≥ -1000000) := by rw [← decide_not]; congr 1; apply propext; omega
    have n2 : decide (c.Count > 1000000) = !decide (c.Count ≤ 1000000) := by rw [← decide_not]; congr 1; apply propext; omega
    have n3 : decide (c.Last < -1) = !decide (c.Last ≥ -1) := by rw [← decide_not]; congr 1; apply propext; omega
    have n4 : decide (c.Last > 1) = !decide (c.Last ≤ 1) := by rw [← decide_not]; congr 1; apply propext; omega
    rw [n1, n2, n3, n4]
    generalize decide (c.Count ≥ -1000000) = b1
    generalize decide (c.Count ≤ 1000000) = b2
    generalize decide (c.Last ≥ -1) = b3
    generalize decide (c.Last ≤ 1) = b4
    generalize (c.Count == 0) = z1
    generalize (c.Count != 0) = z2
    generalize (c.Last == -1) = z3
    generalize decide (c.Count < 0) = z4
    generalize c.Lost = z5
    generalize c.Sweep = z6
    have hv : ∃ v, (bif dd then some (3 : Int) else bif z5 || z2 && !z6 then some 1 else bif z6 then some 2 else some 0) = some v := by cases dd <;> cases z5 <;> cases z2 <;> cases z6 <;> exact ⟨_, rfl⟩
    obtain ⟨v, hv⟩ := hv
    simp only [hv, Option.bind_some]
    generalize (c.Told != v) = tv
    constructor
    · cases b1 <;> cases b2 <;> cases b3 <;> cases b4 <;> cases tv <;> simp only [Bool.and_true, Bool.and_false, Bool.and_self, Bool.not_true, Bool.not_false, Bool.or_true, Bool.or_false, Bool.or_self, cond_true, cond_false, Option.bind_some, Option.map_some]
      cases z4 <;> cases z5 <;> cases dd <;> simp only [Bool.and_true, Bool.and_false, Bool.and_self, Bool.not_true, Bool.not_false, Bool.or_true, Bool.or_false, Bool.or_self, cond_true, cond_false, Option.bind_some, Option.map_some, Bool.true_and, Bool.false_and, Bool.true_or, Bool.false_or]
    · generalize (!b1 || !b2 || !b3 || !b4) = t1
      have h1 : ∃ t, (bif t1 then some true else some tv) = some t := by cases t1 <;> exact ⟨_, rfl⟩
      obtain ⟨t, h1⟩ := h1
      have h2 : ∃ t, (bif z4 then some true else some dd) = some t := by cases z4 <;> exact ⟨_, rfl⟩
      obtain ⟨t2, h2⟩ := h2
      simp only [h1, h2, Option.bind_some]
      cases t
      · simp only [cond_false]
        generalize (t2 && !z5 || z6 && z1 && z3 && !z5) = t4
        cases t4
        · exact .inl rfl
        · exact .inr ⟨false, rfl⟩
      · exact .inr ⟨false, rfl⟩
  obtain ⟨r, h1, h2⟩ := loop_same (F := f183_L1 l s) (F' := f190_L1 l s) s.Sections.length (fun i hi => (step i hi).1) (by unfold f183_L1 f190_L1; simp only [lt_f, cond_false]) (fun i hi => (step i hi).2) (by unfold f190_L1; exact ⟨true, by simp only [lt_f, cond_false, Option.map_some]⟩)
  exact ⟨r, h1, h2⟩
theorem countEventOk_eq {x : Layout} {e : CountEvent} (hx : fitLayout x) (hs : smLayout x) : ∃ r, f184 x e = some r ∧ f191 x e = some r := by
  obtain ⟨r, h1, h2, h3⟩ := layoutOk_eq hx hs
  unfold f184 f191
  rw [h1, h2, Option.bind_some, Option.bind_some]
  rcases Bool.eq_false_or_eq_true (r != (0 : Int)) with hb | hb
  · rw [hb]; exact ⟨false, rfl, rfl⟩
  rw [hb]
  simp only [bne_eq_false_iff_eq] at hb
  obtain ⟨h4, h5, h6⟩ := h3 hb
  have e2 : f184_k2 x e = f191_k2 x e := by
    funext b
    unfold f184_k2 f191_k2
    simp only [f127, Option.bind_some]
    rw [le_pred ⟨by omega, by omega⟩, le_pred ⟨by omega, by omega⟩]
  have e1 : f184_k1 x e = f191_k1 x e := by
    funext b
    unfold f184_k1 f191_k1
    simp only [f127, Option.bind_some]
    rw [le_pred ⟨by omega, by omega⟩, e2]
  rw [e1]
  have t2 : ∀ b, ∃ r, f191_k2 x e b = some r := by
    intro b
    unfold f191_k2
    cases b <;> cases (e.Op == (5 : Int)) <;> exact ⟨_, rfl⟩
  have t1 : ∀ b, ∃ r, f191_k1 x e b = some r := by
    intro b
    unfold f191_k1
    cases b
    · cases (e.Op == (3 : Int))
      · exact t2 (e.Op == (4 : Int))
      · exact t2 true
    · exact ⟨_, rfl⟩
  simp only [cond_false]
  cases (e.Op == (1 : Int))
  · obtain ⟨r, hr⟩ := t1 (e.Op == (2 : Int))
    exact ⟨r, hr, hr⟩
  · obtain ⟨r, hr⟩ := t1 true
    exact ⟨r, hr, hr⟩
/-- A loop that gathers, one element after the other. -/
theorem gather {α β σ ρ : Type} {F : σ → Option (σ ⊕ ρ)} (st : List β → Int → σ) (xs : List α) (g : α → β) {r : ρ} (hstep : ∀ (row : List β) (i : Nat) (x : α), xs[i]? = some x → row.length = i → F (st row (i : Int)) = some (.inl (st (row ++ [g x]) ((i + 1 : Nat) : Int)))) (hend : F (st (xs.map g) (xs.length : Int)) = some (.inr r)) : loopO F (st [] (0 : Int)) = some r := by
  have := loopO_run (F := F) xs.length (fun i => st ((xs.take i).map g) (i : Int)) (r := r) (fun i hi => ?_) (by rw [List.take_length]; exact hend)
  · simpa using this
  · have hx : xs[i]? = some xs[i] := List.getElem?_eq_getElem hi
    rw [hstep _ i xs[i] hx (by rw [List.length_map, List.length_take]; omega), show (xs.take i).map g ++ [g xs[i]] = (xs.take (i + 1)).map g by rw [List.take_succ_eq_append_getElem hi, List.map_append]; rfl]
theorem str_eq (a b : ByteArray) : (a.toList == b.toList) = decide (a = b) := by
  rw [Bool.eq_iff_iff, decide_eq_true_eq, ByteArray.toList_eq, ByteArray.toList_eq, beq_iff_eq]
  exact ⟨fun h => by cases a; cases b; simp only [Array.toList_inj] at h; rw [h], fun h => by rw [h]⟩
/-- The first place, if any, at which a search ends. -/
def firstO {ρ : Type} (n : Nat) (b : Nat → Option ρ) (e : Option ρ) : Option ρ := match (List.range n).findSome? b with | some r => some r | none => e
theorem firstO_none {ρ : Type} {n : Nat} {b : Nat → Option ρ} {e : Option ρ} (h : ∀ i, i < n → b i = none) : firstO n b e = e := by
  unfold firstO
  rw [List.findSome?_eq_none_iff.2 (fun x hx => h x (List.mem_range.1 hx))]
theorem firstO_some {ρ : Type} {n : Nat} {b : Nat → Option ρ} {e : Option ρ} {i : Nat} {r : ρ} (hi : i < n) (h : ∀ j, j < i → b j = none) (hr : b i = some r) : firstO n b e = some r := by
  unfold firstO
  have e1 : n = i + ((n - i - 1) + 1) := by omega
  have h0 : (List.range i).findSome? b = none := List.findSome?_eq_none_iff.2 fun x hx => h x (List.mem_range.1 hx)
  rw [e1, List.range_add, List.findSome?_append, h0, List.range_succ_eq_map]
  simp [hr]
/-- A search is: no place ends it, or a first one does. -/
theorem first_cases {ρ : Type} (n : Nat) (b : Nat → Option ρ) : (∀ i, i < n → b i = none) ∨ ∃ i r, i < n ∧ (∀ j, j < i → b j = none) ∧ b i = some r := by
  induction n with
  | zero => exact .inl (fun i hi => by omega)
  | succ n ih =>
    rcases ih with h | ⟨i, r, h1, h2, h3⟩
    · cases hb : b n with
      | none =>
        refine .inl (fun i hi => ?_)
        rcases Nat.lt_or_ge i n with hl | hl
        · exact h i hl
        · have : i = n := by omega
          subst this; exact hb
      | some r => exact .inr ⟨n, r, by omega, h, hb⟩
    · exact .inr ⟨i, r, by omega, h2, h3⟩
/-- A loop that searches. -/
theorem loop_find {σ ρ : Type} {F : σ → Option (σ ⊕ ρ)} (n : Nat) (st : Nat → σ) (b : Nat → Option ρ) (e : Option ρ) (h : ∀ i, i < n → (∀ j, j < i → b j = none) → F (st i) = some ((b i).elim (.inl (st (i + 1))) .inr)) (hend : (∀ j, j < n → b j = none) → F (st n) = e.map .inr) : loopO F (st 0) = firstO n b e := by
  have key : ∀ k i, i + k = n → (∀ j, j < i → b j = none) → loopO F (st i) = firstO n b e := by
    intro k
    induction k with
    | zero =>
      intro i hi hb
      have : i = n := by omega
      subst this
      rw [loopO_eq, hend hb, firstO_none hb]
      cases e <;> rfl
    | succ k ih =>
      intro i hi hb
      rw [loopO_eq, h i (by omega) hb]
      cases hr : b i with
      | some r => rw [firstO_some (by omega) hb hr]; rfl
      | none =>
        simp only [Option.bind_some, Option.elim]
        refine ih (i + 1) (by omega) (fun j hj => ?_)
        rcases Nat.lt_or_ge j i with hl | hl
        · exact hb j hl
        · have : j = i := by omega
          subst this; exact hr
  exact key n 0 (by omega) (fun j hj => by omega)
/-- A loop that gathers. -/
theorem loop_fold {α β ρ : Type} {F : β × Int → Option ((β × Int) ⊕ ρ)} (xs : List α) (g : β → α → β) (a0 : β) (e : β → Option ρ) (h : ∀ (a : β) (i : Nat) (x : α), xs[i]? = some x → F (a, (i : Int)) = some (.inl (g a x, ((i + 1 : Nat) : Int)))) (hend : ∀ a, F (a, (xs.length : Int)) = (e a).map .inr) : loopO F (a0, (0 : Int)) = e (xs.foldl g a0) := by
  have key : ∀ k i (a : β), i + k = xs.length → loopO F (a, (i : Int)) = e ((xs.drop i).foldl g a) := by
    intro k
    induction k with
    | zero =>
      intro i a hi
      have : i = xs.length := by omega
      subst this
      rw [loopO_eq, hend, List.drop_length, List.foldl_nil]
      cases e a <;> rfl
    | succ k ih =>
      intro i a hi
      have hlt : i < xs.length := by omega
      rw [loopO_eq, h a i _ (List.getElem?_eq_getElem hlt), List.drop_eq_getElem_cons hlt, List.foldl_cons]
      exact ih (i + 1) _ (by omega)
  have := key xs.length 0 a0 (by omega)
  simpa using this
section
variable {κ ν : Type} [DecidableEq κ]
theorem mfind_none {k : κ} : ∀ {m : List (κ × ν)} {i : Nat}, mfind k m i = none → ∀ j, mfind k m j = none
  | [], _, _, _ => rfl
  | e :: m, i, h, j => by
    unfold mfind at h ⊢
    split at h
    · cases h
    · rename_i hk; rw [if_neg hk]; exact mfind_none h (j + 1)
theorem mget_cons (k : κ) (e : κ × ν) (m : List (κ × ν)) (z : ν) : mget k (e :: m) z = if k = e.1 then e.2 else mget k m z := by
  by_cases hk : k = e.1
  · rw [if_pos hk]
    unfold mget mfind
    rw [if_pos hk]
  · rw [if_neg hk]
    unfold mget
    have h0 : mfind k (e :: m) 0 = mfind k m (0 + 1) := by rw [mfind, if_neg hk]
    rw [h0]
    have key : ∀ (m : List (κ × ν)) i j, (mfind k m i).map (·.2) = (mfind k m j).map (·.2) := by
      intro m
      induction m with
      | nil => intro i j; rfl
      | cons e m ih =>
        intro i j
        unfold mfind
        split
        · rfl
        · exact ih _ _
    have := key m (0 + 1) 0
    cases h1 : mfind k m (0 + 1) <;> cases h2 : mfind k m 0 <;> rw [h1, h2] at this <;> simp_all
theorem mget_append (k k' : κ) (v : ν) (z : ν) : ∀ (m : List (κ × ν)), mfind k' m 0 = none → mget k (m ++ [(k', v)]) z = if k = k' then v else mget k m z
  | [], _ => by rw [List.nil_append, mget_cons]
  | e :: m, h => by
    have h' : k' ≠ e.1 ∧ mfind k' m 0 = none := by
      unfold mfind at h
      split at h
      · cases h
      · rename_i hk; exact ⟨hk, mfind_none h 0⟩
    rw [List.cons_append, mget_cons, mget_append k k' v z m h'.2, mget_cons]
    by_cases h1 : k = e.1
    · rw [if_pos h1, if_pos h1, if_neg (fun (h2 : k = k') => h'.1 (h2 ▸ h1))]
    · rw [if_neg h1, if_neg h1]
theorem mget_setAt (k k' : κ) (v : ν) (z : ν) : ∀ (m : List (κ × ν)) (n i : Nat) (x : ν), mfind k' m n = some (n + i, x) → mget k (m.set i (k', v)) z = if k = k' then v else mget k m z
  | [], _, _, _, h => by cases h
  | e :: m, n, i, x, h => by
    unfold mfind at h
    split at h
    · rename_i hk
      simp only [Option.some.injEq, Prod.mk.injEq] at h
      have : i = 0 := by omega
      subst this
      rw [List.set_cons_zero, mget_cons, mget_cons, hk]
      by_cases h1 : k = e.1
      · rw [if_pos h1, if_pos h1]
      · rw [if_neg h1, if_neg h1, if_neg h1]
    · rename_i hk
      have hi := (mfind_get h).1
      simp only [] at hi
      obtain ⟨i', rfl⟩ : ∃ i', i = i' + 1 := ⟨i - 1, by omega⟩
      rw [List.set_cons_succ, mget_cons, mget_setAt k k' v z m (n + 1) i' x (by rw [h]; congr 2; omega), mget_cons]
      by_cases h1 : k = e.1
      · rw [if_pos h1, if_pos h1, if_neg (fun (h2 : k = k') => hk (h2 ▸ h1))]
      · rw [if_neg h1, if_neg h1]
theorem mget_mset (k k' : κ) (v z : ν) (m : List (κ × ν)) : mget k (mset k' v m) z = if k = k' then v else mget k m z := by
  unfold mset
  cases h : mfind k' m 0 with
  | none => exact mget_append k k' v z m h
  | some x =>
    obtain ⟨i, y⟩ := x
    exact mget_setAt k k' v z m 0 i y (by rw [h, Nat.zero_add])
/-- What has been set under keys of a list. -/
theorem mget_keys {α : Type} (p : α → Bool) (f : α → κ) (xs : List α) (k : κ) : mget k (xs.foldl (fun m x => bif p x then mset (f x) true m else m) []) false = xs.any fun x => p x && decide (f x = k) := by
  have key : ∀ (xs : List α) (m : List (κ × Bool)), mget k (xs.foldl (fun m x => bif p x then mset (f x) true m else m) m) false = (mget k m false || xs.any fun x => p x && decide (f x = k)) := by
    intro xs
    induction xs with
    | nil => intro m; simp
    | cons x xs ih =>
      intro m
      rw [List.foldl_cons, ih, List.any_cons]
      cases hp : p x with
      | false => simp
      | true =>
        rw [cond_true, mget_mset]
        by_cases hk : k = f x
        · rw [if_pos hk]; simp [hk]
        · rw [if_neg hk]
          have : decide (f x = k) = false := decide_eq_false (fun h => hk h.symm)
          simp [this]
  rw [key]
  rfl
end
theorem firstO_any {ρ : Type} (n : Nat) (p : Nat → Bool) (r : ρ) (e : Option ρ) : firstO n (fun i => bif p i then some r else none) e = bif (List.range n).any p then some r else e := by
  rcases first_cases n (fun i => bif p i then some r else none) with h | ⟨i, r', hi, hj, hr⟩
  · rw [firstO_none h]
    have : (List.range n).any p = false := by
      rw [List.any_eq_false]
      intro x hx
      have := h x (List.mem_range.1 hx)
      cases hp : p x <;> simp_all
    rw [this]; rfl
  · rw [firstO_some hi hj hr]
    have hp : p i = true := by cases hp : p i <;> simp_all
    have : (List.range n).any p = true := List.any_eq_true.2 ⟨i, List.mem_range.2 hi, hp⟩
    rw [this]
    simp_all
theorem firstO_all (n : Nat) (p : Nat → Bool) (e : Bool) : firstO n (fun i => bif p i then none else some false) (some e) = some ((List.range n).all p && e) := by
  have : (fun i => bif p i then (none : Option Bool) else some false) = fun i => bif !p i then some false else none := by funext i; cases p i <;> rfl
  rw [this, firstO_any]
  have : ((List.range n).any fun i => !p i) = !((List.range n).all p) := by rw [List.not_all_eq_any_not]
  rw [this]
  cases (List.range n).all p <;> rfl
theorem firstO_is {ρ : Type} (n : Nat) (b : Nat → Option ρ) {e : Option ρ} (h : ∃ r, e = some r) : ∃ r, firstO n b e = some r := by
  unfold firstO
  split
  · exact ⟨_, rfl⟩
  · exact h
theorem firstO_congr {ρ : Type} {n : Nat} {b b' : Nat → Option ρ} {e e' : Option ρ} (h : ∀ i, i < n → b i = b' i) (he : (∀ i, i < n → b i = none) → e = e') : firstO n b e = firstO n b' e' := by
  rcases first_cases n b with h1 | ⟨i, r, hi, hj, hr⟩
  · rw [firstO_none h1, firstO_none (fun i hi => by rw [← h i hi]; exact h1 i hi)]; exact he h1
  · rw [firstO_some hi hj hr, firstO_some hi (fun j hl => by rw [← h j (by omega)]; exact hj j hl) (by rw [← h i hi]; exact hr)]
theorem cond_some {α : Type} (b : Bool) (x y : α) : (bif b then some x else some y) = some (bif b then x else y) := by cases b <;> rfl
theorem range_any_take {α : Type} (xs : List α) (g : α → Bool) : ∀ i, ((List.range i).any fun j => (xs[j]?).any g) = (xs.take i).any g
  | 0 => by simp
  | i + 1 => by
    rw [List.range_succ, List.any_append, range_any_take xs g i, List.take_add_one, List.any_append, List.any_cons, List.any_nil, Bool.or_false]
    cases xs[i]? <;> simp [Option.any]
theorem foldl_take {α β : Type} (g : β → α → β) (a : β) {xs : List α} {i : Nat} {x : α} (h : xs[i]? = some x) : (xs.take (i + 1)).foldl g a = g ((xs.take i).foldl g a) x := by
  rw [List.take_add_one, List.foldl_append, h]; rfl
theorem byteAt_ok {s : ByteArray} {i : Nat} (h : i < s.size) : byteAt s (i : Int) = some ((byteAt s (i : Int)).getD 0) := by
  unfold byteAt
  rw [if_pos (by omega), Int.toNat_natCast, getElem?_pos s i h]
  rfl
theorem loopO_elim {σ ρ : Type} (F : σ → Option (σ ⊕ ρ)) (s : σ) : loopO F s = (F s).bind (Sum.elim (loopO F) some) := by
  rw [loopO_eq]
  congr 1
  funext x
  cases x <;> rfl
theorem firstO_step {σ ρ : Type} (n : Nat) (b : Nat → Option ρ) (s : σ) (k : σ → Option ρ) : ((firstO n (fun i => (b i).map Sum.inr) (some (.inl s))).bind (Sum.elim k some)) = firstO n b (k s) := by
  rcases first_cases n b with h | ⟨i, r, hi, hj, hr⟩
  · rw [firstO_none h, firstO_none (fun i hi => by rw [h i hi]; rfl)]; rfl
  · rw [firstO_some hi hj hr, firstO_some (r := .inr r) hi (fun j hl => by rw [hj j hl]; rfl) (by rw [hr]; rfl)]; rfl
theorem mget_counts {κ : Type} [DecidableEq κ] (xs : List κ) (k : κ) : mget k (xs.foldl (fun m x => mset x (w64 (mget x m 0 + 1)) m) []) 0 = xs.foldl (fun a x => bif decide (x = k) then w64 (a + 1) else a) (0 : Int) := by
  have key : ∀ (xs : List κ) (m : List (κ × Int)), mget k (xs.foldl (fun m x => mset x (w64 (mget x m 0 + 1)) m) m) 0 = xs.foldl (fun a x => bif decide (x = k) then w64 (a + 1) else a) (mget k m 0) := by
    intro xs
    induction xs with
    | nil => intro m; rfl
    | cons x xs ih =>
      intro m
      rw [List.foldl_cons, ih, List.foldl_cons, mget_mset]
      by_cases hk : x = k
      · subst hk; simp
      · rw [if_neg (fun h => hk h.symm)]; simp [hk]
  rw [key]
  rfl
theorem firstO_mem {ρ : Type} {n : Nat} {b : Nat → Option ρ} {e : Option ρ} {r : ρ} (h : firstO n b e = some r) : (∃ i, i < n ∧ b i = some r) ∨ ((∀ i, i < n → b i = none) ∧ e = some r) := by
  rcases first_cases n b with h1 | ⟨i, r', hi, hj, hr⟩
  · rw [firstO_none h1] at h; exact .inr ⟨h1, h⟩
  · rw [firstO_some hi hj hr] at h; exact .inl ⟨i, hi, hr.trans h⟩
theorem bif_some {α : Type} {b : Bool} {x y : α} (h : (bif b then some x else none) = some y) : b = true ∧ x = y := by
  cases b
  · cases h
  · exact ⟨rfl, by simpa using h⟩
theorem bif_none {α : Type} {b : Bool} {x : α} (h : (bif b then some x else none) = none) : b = false := by
  cases b
  · rfl
  · cases h
theorem firstO_elim {σ ρ : Type} (n : Nat) (b : Nat → Option ρ) (s : σ) : firstO n (fun i => (b i).map Sum.inr) (some (.inl s)) = some ((firstO n b none).elim (.inl s) .inr) := by
  rcases first_cases n b with h | ⟨i, r, hi, hj, hr⟩
  · rw [firstO_none h, firstO_none (fun i hi => by rw [h i hi]; rfl)]; rfl
  · rw [firstO_some hi hj hr, firstO_some (r := .inr r) hi (fun j hl => by rw [hj j hl]; rfl) (by rw [hr]; rfl)]; rfl
theorem firstO_no {ρ : Type} {n : Nat} {b : Nat → Option ρ} {e : Option ρ} (h : firstO n b e = none) : ∀ i, i < n → b i = none := by
  rcases first_cases n b with h1 | ⟨i, r, hi, hj, hr⟩
  · exact h1
  · rw [firstO_some hi hj hr] at h; cases h
/-- Two loops that do the same. -/
theorem loop_twin {σ ρ : Type} {F F' : σ → Option (σ ⊕ ρ)} (n : Nat) (Inv : Nat → σ → Prop) (s0 : σ) (h0 : Inv 0 s0) (h : ∀ i s, i < n → Inv i s → F s = F' s ∧ ((∃ s', F' s = some (.inl s') ∧ Inv (i + 1) s') ∨ ∃ r, F' s = some (.inr r))) (hend : ∀ s, Inv n s → F s = F' s ∧ ∃ r, F' s = some (.inr r)) : ∃ r, loopO F s0 = some r ∧ loopO F' s0 = some r := by
  have key : ∀ k i s, i + k = n → Inv i s → ∃ r, loopO F s = some r ∧ loopO F' s = some r := by
    intro k
    induction k with
    | zero =>
      intro i s hi hs
      have : i = n := by omega
      subst this
      obtain ⟨h1, r, h2⟩ := hend s hs
      exact ⟨r, by rw [loopO_eq, h1, h2]; rfl, by rw [loopO_eq, h2]; rfl⟩
    | succ k ih =>
      intro i s hi hs
      obtain ⟨h1, h2⟩ := h i s (by omega) hs
      rcases h2 with ⟨s', h2, h3⟩ | ⟨r, h2⟩
      · obtain ⟨r, h4, h5⟩ := ih (i + 1) s' (by omega) h3
        exact ⟨r, by rw [loopO_eq, h1, h2]; exact h4, by rw [loopO_eq, h2]; exact h5⟩
      · exact ⟨r, by rw [loopO_eq, h1, h2]; rfl, by rw [loopO_eq, h2]; rfl⟩
  exact key n 0 s0 (by omega) h0
theorem counters_ok {l : Layout} (h : f129 l = some 0) : ∀ (i : Nat) (c : Counter), l.Counters[i]? = some c → (-1 ≤ c.From ∧ c.From < l.Sections) ∧ (-1 ≤ c.To ∧ c.To < l.Sections) := by
  unfold f129 at h
  rcases Bool.eq_false_or_eq_true ((decide (l.Sections < 1) || decide (l.Sections > 60)) || decide ((l.Counters.length : Int) > 120)) with hb | hb
  · rw [hb] at h; cases h
  rw [hb] at h
  simp only [Bool.or_eq_false_iff, decide_eq_false_iff_not] at hb
  simp only [cond_false] at h
  have k1 : loopO (f129_L1 l) (0 : Int) = firstO l.Counters.length (fun i => bif (l.Counters[i]?).any (fun c => (!(decide (c.From ≥ -1) && decide (c.From < l.Sections)) || !(decide (c.To ≥ -1) && decide (c.To < l.Sections))) || (c.From == c.To)) then some (2 : Int) else none) (some 0) := by
    refine loop_find (F := f129_L1 l) l.Counters.length (fun i => (i : Int)) _ _ (fun i hi _ => ?_) (fun _ => ?_)
    · unfold f129_L1 f250
      simp only [lt_t hi, cond_true, getI_ok hi, Option.bind_some, List.getElem?_eq_getElem hi, Option.any_some]
      rw [w64_nat (by omega)]
      generalize (decide (l.Counters[i].From ≥ -1) && decide (l.Counters[i].From < l.Sections)) = b1
      generalize (decide (l.Counters[i].To ≥ -1) && decide (l.Counters[i].To < l.Sections)) = b2
      cases b1 <;> cases b2 <;> cases (l.Counters[i].From == l.Counters[i].To) <;> rfl
    · unfold f129_L1
      simp only [lt_f, cond_false]
  rw [k1] at h
  intro i c hc
  rcases firstO_mem h with ⟨i, _, h1⟩ | ⟨h1, _⟩
  · obtain ⟨_, h9⟩ := bif_some h1; cases h9
  · have := h1 i (get_lt hc)
    rw [hc, Option.any_some] at this
    cases hq : ((!(decide (c.From ≥ -1) && decide (c.From < l.Sections)) || !(decide (c.To ≥ -1) && decide (c.To < l.Sections))) || (c.From == c.To)) with
    | true => rw [hq] at this; cases this
    | false =>
      simp only [Bool.or_eq_false_iff, Bool.not_eq_false', Bool.and_eq_true, decide_eq_true_eq] at hq
      omega
/-- What is told of a section. -/
def toldF (l : Layout) (d : List Bool) (i : Nat) (c : Section) : Int := bif deadAt l d (i : Int) then 3 else bif (c.Lost || ((c.Count != 0) && !c.Sweep)) then 1 else bif c.Sweep then 2 else 0
theorem told_spec {l : Layout} {d : List Bool} (hx : fitLayout l) (hs : smLayout l) (h0 : f126 l = some 0) (hd : d.length = l.Counters.length) {i : Nat} (hi : (i : Int) < l.Sections) (c : Section) : f188 l d (i : Int) c = some (toldF l d i c) := by
  unfold f188 toldF
  rw [l15dead_eq hx hs h0 (by omega) hi hd, Option.bind_some]
  cases deadAt l d (i : Int) <;> cases (c.Lost || ((c.Count != 0) && !c.Sweep)) <;> cases c.Sweep <;> rfl
theorem told_impl {l : Layout} {s : CountState} (hs : smLayout l) (hd : s.Dead.length = l.Counters.length) {i : Nat} {c : Section} (hc : s.Sections[i]? = some c) : f276 l s (i : Int) = some (toldF l s.Dead i c) := by
  unfold f276 toldF
  rw [getI_nat, hc, Option.bind_some, dead_eq hs hd, Option.bind_some]
  cases deadAt l s.Dead (i : Int) <;> cases (c.Lost || ((c.Count != 0) && !c.Sweep)) <;> cases c.Sweep <;> rfl
/-- A loop that changes each element in its place. -/
theorem set_loop {α ρ : Type} {F : List α × Int → Option ((List α × Int) ⊕ ρ)} (xs : List α) (g : Nat → α → α) (e : List α → ρ) (hstep : ∀ (ys : List α) (i : Nat) (c : α), ys.length = xs.length → ys[i]? = some c → F (ys, (i : Int)) = some (.inl (ys.set i (g i c), ((i + 1 : Nat) : Int)))) (hend : ∀ ys : List α, ys.length = xs.length → F (ys, (xs.length : Int)) = some (.inr (e ys))) : loopO F (xs, (0 : Int)) = some (e (xs.mapIdx g)) := by
  have := loopO_run (F := F) xs.length (fun i => (xs.mapIdx (fun j c => if j < i then g j c else c), (i : Int))) (r := e (xs.mapIdx g)) (fun i hi => ?_) ?_
  · have e0 : xs.mapIdx (fun j c => if j < 0 then g j c else c) = xs := by
      apply List.ext_getElem?
      intro j
      rw [List.getElem?_mapIdx]
      cases xs[j]? <;> simp
    rw [e0] at this
    exact this
  · have hx : xs[i]? = some xs[i] := List.getElem?_eq_getElem hi
    rw [hstep _ i xs[i] (by rw [List.length_mapIdx]) (by rw [List.getElem?_mapIdx, hx]; simp)]
    congr 3
    apply List.ext_getElem?
    intro j
    rw [List.getElem?_set, List.length_mapIdx, List.getElem?_mapIdx, List.getElem?_mapIdx]
    by_cases hij : i = j
    · subst hij
      rw [if_pos rfl, if_pos hi, hx]; simp
    · rw [if_neg hij]
      cases hj : xs[j]? with
      | none => rfl
      | some c =>
        simp only [Option.map_some, Option.some.injEq]
        by_cases h : j < i
        · rw [if_pos h, if_pos (by omega)]
        · rw [if_neg h, if_neg (by omega)]
  · rw [hend _ (by rw [List.length_mapIdx])]
    congr 3
    apply List.ext_getElem?
    intro j
    rw [List.getElem?_mapIdx, List.getElem?_mapIdx]
    cases hj : xs[j]? with
    | none => rfl
    | some c => simp only [Option.map_some]; rw [if_pos (get_lt hj)]
def tellAll (l : Layout) (d : List Bool) (xs : List Section) : List Section := xs.mapIdx fun i c => { c with Told := toldF l d i c }
theorem k1_spec {l : Layout} {ok : Bool} {d : List Bool} {xs : List Section} {code : Int} (hx : fitLayout l) (hs : smLayout l) (h0 : f126 l = some 0) (hd : d.length = l.Counters.length) (hl : (xs.length : Int) = l.Sections) (h60 : l.Sections ≤ 60) : f70_k1 l ok d xs code = some { Code := code, State := { Ok := ok, Sections := tellAll l d xs, Dead := d } } := by
  unfold f70_k1
  refine set_loop xs (fun i c => { c with Told := toldF l d i c }) (fun ys => ({ Code := code, State := { Ok := ok, Sections := ys, Dead := d } } : CountDone)) (fun ys i c hy hc => ?_) (fun ys hy => ?_)
  · have hi : i < xs.length := by rw [← hy]; exact get_lt hc
    unfold f70_L2
    simp only [lt_t hi, cond_true, getI_nat, hc, Option.bind_some, told_spec hx hs h0 hd (show (i : Int) < l.Sections by omega), Int.toNat_natCast]
    rw [w64_nat (by omega)]
  · unfold f70_L2
    simp only [lt_f, cond_false, Option.map_some]
theorem k1_impl {l : Layout} {ok : Bool} {d : List Bool} {xs : List Section} (hs : smLayout l) (hd : d.length = l.Counters.length) (hl : (xs.length : Int) = l.Sections) (h60 : l.Sections ≤ 60) : f192_k1 l ok xs d = some { Code := 0, State := { Ok := ok, Sections := tellAll l d xs, Dead := d } } := by
  unfold f192_k1
  refine set_loop xs (fun i c => { c with Told := toldF l d i c }) (fun ys => ({ Code := 0, State := { Ok := ok, Sections := ys, Dead := d } } : CountDone)) (fun ys i c hy hc => ?_) (fun ys hy => ?_)
  · have hi : i < xs.length := by rw [← hy]; exact get_lt hc
    unfold f192_L2
    simp only [lt_t hi, cond_true, told_impl (s := { Ok := ok, Sections := ys, Dead := d }) hs hd hc, getI_nat, hc, Option.bind_some, Int.toNat_natCast]
    rw [w64_nat (by omega)]
  · unfold f192_L2
    simp only [lt_f, cond_false, Option.map_some]
/-- An axle is counted. -/
theorem add_same (s : CountState) (sec : Int) {n : Int} (hn : n = 1 ∨ n = -1) : f280 sec n s = f186 s sec n := by
  have k2 : ∀ x c, f280_k2 sec n s x c = f186_k2 s sec n x c := fun x c => by
    unfold f280_k2 f186_k2
    rcases hn with rfl | rfl
    · simp
    · cases c.Sweep <;> simp
  have k1 : ∀ x c, f280_k1 sec n s x c = f186_k1 s sec n x c := fun x c => by
    unfold f280_k1 f186_k1
    rw [k2, k2]
  unfold f280 f186
  simp only [k1, f127, Option.bind_some]
theorem add_ok (s : CountState) {sec : Int} (n : Int) (h : sec < s.Sections.length) : ∃ z, f186 s sec n = some z ∧ z.Ok = s.Ok ∧ z.Dead = s.Dead ∧ z.Sections.length = s.Sections.length := by
  unfold f186
  by_cases h0 : sec < 0
  · rw [show decide (sec < 0) = true by rw [decide_eq_true_eq]; exact h0]
    exact ⟨s, rfl, rfl, rfl, rfl⟩
  · obtain ⟨k, rfl⟩ : ∃ k : Nat, sec = (k : Int) := ⟨sec.toNat, by omega⟩
    have hk : k < s.Sections.length := by omega
    rw [show decide ((k : Int) < 0) = false by rw [decide_eq_false_iff_not]; omega, cond_false, getI_ok hk]
    simp only [f127, Option.bind_some]
    have k2 : ∀ x c, x.length = s.Sections.length → ∃ z, f186_k2 s (k : Int) n x c = some z ∧ z.Ok = s.Ok ∧ z.Dead = s.Dead ∧ z.Sections.length = s.Sections.length := fun x c hx => by
      unfold f186_k2
      cases ((c.Sweep && decide (n < 0)) && (c.Count == 0))
      · exact ⟨_, rfl, rfl, rfl, hx⟩
      · exact ⟨_, rfl, rfl, rfl, by simp [hx]⟩
    have k1 : ∀ x c, x.length = s.Sections.length → ∃ z, f186_k1 s (k : Int) n x c = some z ∧ z.Ok = s.Ok ∧ z.Dead = s.Dead ∧ z.Sections.length = s.Sections.length := fun x c hx => by
      unfold f186_k1
      cases decide (({ c with Last := n } : Section).Count < 0)
      · exact k2 _ _ (by simp [hx])
      · exact k2 _ _ (by simp [hx])
    cases (decide (w64 (s.Sections[k].Count + n) ≥ -1000000) && decide (w64 (s.Sections[k].Count + n) ≤ 1000000))
    · exact k1 _ _ rfl
    · exact k1 _ _ (by simp)
structure StateF (l : Layout) (s : CountState) : Prop where
  ok : s.Ok = true
  lS : (s.Sections.length : Int) = l.Sections
  lD : s.Dead.length = l.Counters.length
  each : ∀ (i : Nat) (c : Section), s.Sections[i]? = some c → -1 ≤ c.Last ∧ c.Last ≤ 1 ∧ c.Told = toldF l s.Dead i c
theorem state_facts {l : Layout} {s : CountState} (hx : fitLayout l) (hs : smLayout l) (hss : smCountState s) (h : f190 l s = some true) : f129 l = some 0 ∧ f126 l = some 0 ∧ StateF l s := by
  obtain ⟨r, q1, q2, q3⟩ := layoutOk_eq hx hs
  unfold f190 at h
  rw [q2, Option.bind_some] at h
  rcases Bool.eq_false_or_eq_true ((((r != (0 : Int)) || !s.Ok) || ((s.Sections.length : Int) != l.Sections)) || ((s.Dead.length : Int) != (l.Counters.length : Int))) with hb | hb
  · rw [hb] at h; cases h
  rw [hb, cond_false] at h
  simp only [Bool.or_eq_false_iff, bne_eq_false_iff_eq, Bool.not_eq_false'] at hb
  obtain ⟨⟨⟨b1, b2⟩, b3⟩, b4⟩ := hb
  subst b1
  have hd : s.Dead.length = l.Counters.length := by omega
  have hs1 := hss.1.1
  refine ⟨q2, q1, b2, b3, hd, ?_⟩
  have key : ∀ k i, i + k = s.Sections.length → loopO (f190_L1 l s) (i : Int) = some true → ∀ j c, i ≤ j → s.Sections[j]? = some c → -1 ≤ c.Last ∧ c.Last ≤ 1 ∧ c.Told = toldF l s.Dead j c := by
    intro k
    induction k with
    | zero => intro i hi _ j c hj hc; have := get_lt hc; omega
    | succ k ih =>
      intro i hi hr j c hj hc
      obtain ⟨y, hy⟩ : ∃ y, s.Sections[i]? = some y := ⟨_, List.getElem?_eq_getElem (by omega)⟩
      have step : f190_L1 l s (i : Int) = some (.inl ((i + 1 : Nat) : Int)) ∧ -1 ≤ y.Last ∧ y.Last ≤ 1 ∧ y.Told = toldF l s.Dead i y ∨ f190_L1 l s (i : Int) = some (.inr false) := by
        unfold f190_L1
        simp only [lt_t (get_lt hy), cond_true, getI_nat, hy, Option.bind_some, told_impl hs hd hy, dead_eq hs hd, w64_nat (show i < 9223372036854775807 by omega)]
        cases hB : (((decide (y.Count < -1000000) || decide (y.Count > 1000000)) || decide (y.Last < -1)) || decide (y.Last > 1)) with
        | true => exact .inr rfl
        | false =>
          simp only [Bool.or_eq_false_iff, decide_eq_false_iff_not] at hB
          cases hT : (y.Told != toldF l s.Dead i y) with
          | true => exact .inr rfl
          | false =>
            rw [bne_eq_false_iff_eq] at hT
            have h2 : ∃ t, (bif decide (y.Count < 0) then some true else some (deadAt l s.Dead (i : Int))) = some t := by cases decide (y.Count < 0) <;> exact ⟨_, rfl⟩
            obtain ⟨t, h2⟩ := h2
            simp only [cond_false, Option.bind_some, h2]
            cases ((t && !y.Lost) || (((y.Sweep && (y.Count == 0)) && (y.Last == -1)) && !y.Lost)) with
            | true => exact .inr rfl
            | false => exact .inl ⟨rfl, by omega, by omega, hT⟩
      rw [loopO_eq] at hr
      rcases step with ⟨e1, e2⟩ | e1
      · rw [e1] at hr
        rcases Nat.eq_or_lt_of_le hj with rfl | hlt
        · rw [hy] at hc; cases hc
          exact e2
        · exact ih (i + 1) (by omega) hr j c hlt hc
      · rw [e1] at hr; cases hr
  exact fun i c hc => key s.Sections.length 0 (by omega) h i c (Nat.zero_le _) hc
theorem event_facts {l : Layout} {e : CountEvent} (h0 : f129 l = some 0) (h : f191 l e = some true) : ((e.Op = 1 ∨ e.Op = 2) ∧ 0 ≤ e.Of ∧ e.Of < (l.Counters.length : Int) ∧ (e.Dir = 1 ∨ e.Dir = -1)) ∨ ((e.Op = 3 ∨ e.Op = 4) ∧ 0 ≤ e.Of ∧ e.Of < (l.Counters.length : Int)) ∨ (e.Op = 5 ∧ 0 ≤ e.Of ∧ e.Of < l.Sections) := by
  unfold f191 f191_k1 f191_k2 at h
  rw [h0] at h
  by_cases h1 : e.Op = 1
  · simp [h1] at h
    exact .inl ⟨.inl h1, by omega, by omega, by omega⟩
  · by_cases h2 : e.Op = 2
    · simp [h2] at h
      exact .inl ⟨.inr h2, by omega, by omega, by omega⟩
    · by_cases h3 : e.Op = 3
      · simp [h3] at h
        exact .inr (.inl ⟨.inl h3, by omega, by omega⟩)
      · by_cases h4 : e.Op = 4
        · simp [h4] at h
          exact .inr (.inl ⟨.inr h4, by omega, by omega⟩)
        · by_cases h5 : e.Op = 5
          · simp [h5] at h
            exact .inr (.inr ⟨h5, by omega, by omega⟩)
          · rw [beq_eq_false_iff_ne.2 h1, beq_eq_false_iff_ne.2 h2, beq_eq_false_iff_ne.2 h3, beq_eq_false_iff_ne.2 h4, beq_eq_false_iff_ne.2 h5] at h
            cases h
theorem copy_eq {s : CountState} (h1 : s.Sections.length ≤ 60) (h2 : s.Dead.length ≤ 120) : f185 s = some s := by
  unfold f185
  have hin := gather (F := f185_L2 s) (fun ds i => (s.Sections, ds, i)) s.Dead id (r := s) (fun ds i x hx hi => ?_) ?_
  · refine gather (F := f185_L1 s) (fun xs i => (xs, i)) s.Sections id (r := s) (fun xs i x hx hi => ?_) ?_
    · have hlt := get_lt hx
      unfold f185_L1
      simp only [lt_t hlt, cond_true, getI_nat, hx, Option.bind_some]
      rw [appB_ok (by simp only [List.length_singleton]; omega), Option.bind_some, w64_nat (by omega)]
      rfl
    · unfold f185_L1
      simp only [lt_f, cond_false, List.map_id]
      rw [hin]; rfl
  · have hlt := get_lt hx
    unfold f185_L2
    simp only [lt_t hlt, cond_true, getI_nat, hx, Option.bind_some]
    rw [appB_ok (by simp only [List.length_singleton]; omega), Option.bind_some, w64_nat (by omega)]
    rfl
  · unfold f185_L2
    simp only [lt_f, cond_false, List.map_id]
    rfl
theorem tell_len (l : Layout) (d : List Bool) (xs : List Section) : (tellAll l d xs).length = xs.length := by unfold tellAll; rw [List.length_mapIdx]
theorem tell_same {l : Layout} {s : CountState} (h : StateF l s) : tellAll l s.Dead s.Sections = s.Sections := by
  unfold tellAll
  apply List.ext_getElem?
  intro i
  rw [List.getElem?_mapIdx]
  cases hc : s.Sections[i]? with
  | none => rfl
  | some c =>
    have := (h.each i c hc).2.2
    simp only [Option.map_some]
    rw [← this]
theorem sm_done {code : Int} {ok : Bool} {xs : List Section} {d : List Bool} (h1 : xs.length ≤ 60) (h2 : d.length ≤ 120) : smCountDone { Code := code, State := { Ok := ok, Sections := xs, Dead := d } } := by
  refine ⟨⟨?_, fun _ _ => trivial⟩, ⟨?_, fun _ _ => trivial⟩⟩
  · show xs.length ≤ _; omega
  · show d.length ≤ _; omega
def loseL (xs : List Section) (k : Int) : List Section := match getI xs k with | some c => xs.set k.toNat { c with Lost := true } | none => xs
theorem loseL_len (xs : List Section) (k : Int) : (loseL xs k).length = xs.length := by unfold loseL; split <;> simp
theorem lose_impl (s : CountState) {k : Int} (hk : k < s.Sections.length) : f281 k s = some { Ok := s.Ok, Sections := loseL s.Sections k, Dead := s.Dead } := by
  unfold f281 loseL
  by_cases h0 : k ≥ 0
  · obtain ⟨q, rfl⟩ : ∃ q : Nat, k = (q : Int) := ⟨k.toNat, by omega⟩
    rw [show decide ((q : Int) ≥ 0) = true by rw [decide_eq_true_eq]; exact h0, cond_true, getI_ok (show q < s.Sections.length by omega)]
    rfl
  · rw [show decide (k ≥ 0) = false by rw [decide_eq_false_iff_not]; exact h0, cond_false]
    have : getI s.Sections k = none := by unfold getI; rw [if_neg (by omega)]
    rw [this]
theorem lose_step {l : Layout} {e : CountEvent} {s : CountState} {a b : Counter} {xs : List Section} {i : Nat} {k : Int} (hi : ([a.From, b.To] : List Int)[i]? = some k) (hk : k < xs.length) : f70_L6 l e s a b (xs, (i : Int)) = some (.inl (loseL xs k, ((i + 1 : Nat) : Int))) := by
  have hlt := get_lt hi
  have hlt2 : i < 2 := hlt
  unfold f70_L6 f70_k7
  simp only [lt_t hlt, cond_true, getI_nat, hi, Option.bind_some]
  unfold loseL
  by_cases h0 : k ≥ 0
  · obtain ⟨q, rfl⟩ : ∃ q : Nat, k = (q : Int) := ⟨k.toNat, by omega⟩
    rw [show decide ((q : Int) ≥ 0) = true by rw [decide_eq_true_eq]; exact h0, cond_true, getI_ok (show q < xs.length by omega), Option.bind_some, w64_nat (by omega)]
  · rw [show decide (k ≥ 0) = false by rw [decide_eq_false_iff_not]; exact h0, cond_false, w64_nat (by omega)]
    have : getI xs k = none := by unfold getI; rw [if_neg (by omega)]
    rw [this]
theorem k4_same {l : Layout} {e : CountEvent} {xs : List Section} {d : List Bool} (hx : fitLayout l) (hs : smLayout l) (h0 : f126 l = some 0) (hd : d.length = l.Counters.length) (hl : (xs.length : Int) = l.Sections) (h60 : l.Sections ≤ 60) (h120 : l.Counters.length ≤ 120) {a b : Int} (ha : a < l.Sections) (hb : b < l.Sections) :
    ∃ r, f70_k4 l e ⟨true, xs, d⟩ a b = some r ∧ f192_k4 l e xs d a b = some r ∧ smCountDone r := by
  have k5 : ∀ s : CountState, s.Ok = true → s.Dead = d → s.Sections.length = xs.length → ∃ r, f70_k5 l b s.Ok s.Sections s.Dead = some r ∧ f192_k5 l b s.Ok s.Sections s.Dead = some r ∧ smCountDone r := fun s h1 h2 h3 => by
    obtain ⟨z, e1, e2, e3, e4⟩ := add_ok s (sec := b) 1 (by omega)
    unfold f70_k5 f192_k5
    rw [add_same _ b (.inl rfl), show ({ Ok := s.Ok, Sections := s.Sections, Dead := s.Dead } : CountState) = s from rfl, e1]
    simp only [Option.bind_some]
    rw [k1_spec hx hs h0 (by rw [e3, h2]; exact hd) (by omega) h60, k1_impl hs (by rw [e3, h2]; exact hd) (by omega) h60]
    exact ⟨_, rfl, rfl, sm_done (by rw [tell_len]; omega) (by rw [e3, h2, hd]; exact h120)⟩
  unfold f70_k4 f192_k4
  cases (e.Op == 1) with
  | true =>
    obtain ⟨z, e1, e2, e3, e4⟩ := add_ok ⟨true, xs, d⟩ (sec := a) (-1) (by show a < (xs.length : Int); omega)
    simp only [cond_true]
    rw [add_same _ a (.inr rfl), e1]
    exact k5 z e2 e3 e4
  | false => exact k5 ⟨true, xs, d⟩ rfl rfl rfl
theorem main11 {l : Layout} {s : CountState} {e : CountEvent} (hx : fitLayout l) (hxs : fitCountState s) (he : fitCountEvent e) (hs : smLayout l) (hss : smCountState s) : ∃ r, f70 l s e = some r ∧ f73 l s e = some r ∧ smCountDone r := by
  obtain ⟨r1, c1, c2⟩ := countOk_eq hx hs hxs hss
  obtain ⟨r2, c3, c4⟩ := countEventOk_eq (e := e) hx hs
  have nil : smCountDone { Code := 1, State := { Ok := false, Sections := [], Dead := [] } } := sm_done (by simp) (by simp)
  unfold f70 f73
  simp only [c1, c2, c3, c4, Option.bind_some]
  cases r1 with
  | false => exact ⟨_, rfl, rfl, nil⟩
  | true =>
    cases r2 with
    | false => exact ⟨_, rfl, rfl, nil⟩
    | true =>
      obtain ⟨q2, q1, hf⟩ := state_facts hx hs hss c2
      have hev := event_facts q2 c4
      have hco := counters_ok q2
      obtain ⟨r0, p1, p2, p3⟩ := layoutOk_eq hx hs
      rw [q1] at p1
      obtain ⟨g1, g2, g3⟩ := p3 (by cases p1; rfl)
      have hts := tell_same hf
      obtain ⟨ok, xs, d⟩ := s
      obtain ⟨f1, f2, f3, f4⟩ := hf
      simp only [] at f1 f2 f3 f4 hts
      subst f1
      have hc := copy_eq (s := ⟨true, xs, d⟩) (by show xs.length ≤ 60; omega) (by show d.length ≤ 120; omega)
      simp only [Bool.not_true, cond_false, Option.bind_some, hc]
      unfold f192
      rw [appB_ok (by simp only [List.length_nil]; omega), Option.bind_some, appB_ok (by simp only [List.length_nil]; omega), Option.bind_some]
      simp only [List.nil_append]
      have hid : ∀ code : Int, f70_k1 l true d xs code = some { Code := code, State := { Ok := true, Sections := xs, Dead := d } } := fun code => by
        rw [k1_spec hx hs q1 f3 f2 g2, hts]
      have hidsm : ∀ code : Int, smCountDone { Code := code, State := { Ok := true, Sections := xs, Dead := d } } := fun code => sm_done (by omega) (by omega)
      unfold f70_k3 f192_k3
      rcases hev with ⟨hop, ho1, ho2, hdir⟩ | ⟨hop, ho1, ho2⟩ | ⟨hop, ho1, ho2⟩
      · obtain ⟨q, hq⟩ : ∃ q : Nat, e.Of = (q : Int) := ⟨e.Of.toNat, by omega⟩
        have hqc : q < l.Counters.length := by omega
        have hqd : q < d.length := by omega
        have hcq := hco q _ (List.getElem?_eq_getElem hqc)
        have h12 : ∀ (A B : Option CountDone), (bif (e.Op == 1) then (bif (e.Op == 1) then A else B) else (bif (e.Op == 2) then A else B)) = A := fun A B => by
          rcases hop with h | h <;> rw [h] <;> rfl
        rw [h12, h12]
        simp only [hq, getI_ok hqc, getI_ok hqd, Option.bind_some]
        cases d[q] with
        | true =>
          simp only [cond_true, hid]
          exact ⟨_, rfl, rfl, hidsm 2⟩
        | false =>
          simp only [cond_false]
          rcases hdir with hd1 | hd1
          · rw [hd1, show decide ((1 : Int) < 0) = false from rfl, show ((1 : Int) == -1) = false from rfl]
            simp only [cond_false]
            obtain ⟨r, z1, z2, z3⟩ := k4_same (e := e) hx hs q1 f3 f2 g2 g3 hcq.1.2 hcq.2.2
            exact ⟨r, z1, by rw [z2]; rfl, z3⟩
          · rw [hd1, show decide ((-1 : Int) < 0) = true from rfl, show ((-1 : Int) == -1) = true from rfl]
            simp only [cond_true]
            obtain ⟨r, z1, z2, z3⟩ := k4_same (e := e) hx hs q1 f3 f2 g2 g3 hcq.2.2 hcq.1.2
            exact ⟨r, z1, by rw [z2]; rfl, z3⟩
      · obtain ⟨q, hq⟩ : ∃ q : Nat, e.Of = (q : Int) := ⟨e.Of.toNat, by omega⟩
        have hqc : q < l.Counters.length := by omega
        have hqd : q < d.length := by omega
        have hcq := hco q _ (List.getElem?_eq_getElem hqc)
        rcases hop with hop | hop
        · rw [hop]
          simp only [show ((3 : Int) == 1) = false from rfl, show ((3 : Int) == 2) = false from rfl, beq_self_eq_true, cond_true, cond_false, hq, getI_ok hqc, getI_ok hqd, Option.bind_some, Int.toNat_natCast]
          rw [lose_impl ⟨true, xs, d.set q true⟩ (by show _ < (xs.length : Int); omega)]
          simp only [Option.bind_some]
          rw [lose_impl ⟨true, loseL xs l.Counters[q].From, d.set q true⟩ (by show _ < ((loseL _ _).length : Int); rw [loseL_len]; omega)]
          simp only [Option.bind_some]
          rw [k1_impl hs (by rw [List.length_set]; exact f3) (by rw [loseL_len, loseL_len]; exact f2) g2]
          have s0 := lose_step (l := l) (e := e) (s := ⟨true, xs, d⟩) (a := l.Counters[q]) (b := l.Counters[q]) (xs := xs) (i := 0) rfl (by omega)
          have s1 := lose_step (l := l) (e := e) (s := ⟨true, xs, d⟩) (a := l.Counters[q]) (b := l.Counters[q]) (xs := loseL xs l.Counters[q].From) (i := 1) rfl (by rw [loseL_len]; omega)
          have s2 : f70_L6 l e ⟨true, xs, d⟩ l.Counters[q] l.Counters[q] (loseL (loseL xs l.Counters[q].From) l.Counters[q].To, ((1 + 1 : Nat) : Int)) = some (.inr { Code := 0, State := { Ok := true, Sections := tellAll l (d.set q true) (loseL (loseL xs l.Counters[q].From) l.Counters[q].To), Dead := d.set q true } }) := by
            unfold f70_L6
            simp only [show decide (((1 + 1 : Nat) : Int) < ((([l.Counters[q].From, l.Counters[q].To] : List Int).length : Nat) : Int)) = false from rfl, cond_false, hq, Int.toNat_natCast]
            rw [k1_spec hx hs q1 (by rw [List.length_set]; exact f3) (by rw [loseL_len, loseL_len]; exact f2) g2]
            rfl
          have e0 : loopO (f70_L6 l e ⟨true, xs, d⟩ l.Counters[q] l.Counters[q]) (xs, (0 : Int)) = some { Code := 0, State := { Ok := true, Sections := tellAll l (d.set q true) (loseL (loseL xs l.Counters[q].From) l.Counters[q].To), Dead := d.set q true } } := by
            rw [loopO_eq, show ((0 : Int)) = ((0 : Nat) : Int) from rfl, s0]
            simp only [Option.bind_some]
            rw [loopO_eq, s1]
            simp only [Option.bind_some]
            rw [loopO_eq, s2]
            rfl
          rw [e0]
          exact ⟨_, rfl, rfl, sm_done (by rw [tell_len, loseL_len, loseL_len]; omega) (by rw [List.length_set]; omega)⟩
        · rw [hop]
          simp only [show ((4 : Int) == 1) = false from rfl, show ((4 : Int) == 2) = false from rfl, show ((4 : Int) == 3) = false from rfl, beq_self_eq_true, cond_true, cond_false, hq, getI_ok hqd, Option.bind_some, Int.toNat_natCast]
          rw [k1_impl hs (by rw [List.length_set]; exact f3) f2 g2, k1_spec hx hs q1 (by rw [List.length_set]; exact f3) f2 g2]
          exact ⟨_, rfl, rfl, sm_done (by rw [tell_len]; omega) (by rw [List.length_set]; omega)⟩
      · obtain ⟨q, hq⟩ : ∃ q : Nat, e.Of = (q : Int) := ⟨e.Of.toNat, by omega⟩
        have hqs : q < xs.length := by omega
        have hl5 := f4 q _ (List.getElem?_eq_getElem hqs)
        have hdd := l15dead_eq (d := d) (sec := (q : Int)) hx hs q1 (by omega) (by omega) f3
        have hdi := dead_eq (s := ⟨true, xs, d⟩) (sec := (q : Int)) hs f3
        rw [hop]
        simp only [show ((5 : Int) == 1) = false from rfl, show ((5 : Int) == 2) = false from rfl, show ((5 : Int) == 3) = false from rfl, show ((5 : Int) == 4) = false from rfl, beq_self_eq_true, cond_true, cond_false, hq, hdd, hdi, getI_ok hqs, Option.bind_some, Int.toNat_natCast]
        cases deadAt l d (q : Int) with
        | true =>
          simp only [cond_true, hid]
          exact ⟨_, rfl, rfl, hidsm 3⟩
        | false =>
          simp only [cond_false]
          rw [show (xs[q].Last == 1) = decide (xs[q].Last > 0) by rw [Bool.eq_iff_iff, beq_iff_eq, decide_eq_true_eq]; omega]
          cases decide (xs[q].Last > 0) with
          | true =>
            simp only [cond_true, hid]
            exact ⟨_, rfl, rfl, hidsm 4⟩
          | false =>
            simp only [cond_false]
            rw [k1_impl hs f3 (by rw [List.length_set]; exact f2) g2, k1_spec hx hs q1 f3 (by rw [List.length_set]; exact f2) g2]
            exact ⟨_, rfl, rfl, sm_done (by rw [tell_len, List.length_set]; omega) (by omega)⟩

def mk_Counter (x : Counter) (k : Int) : Counter := { From := k, To := k + 1 }
def ck_Counter (x : Counter) : Nat := 1 + (1)
def ms_Layout (x : Layout) (k : Int) : Layout := { Sections := x.Sections, Counters := markAll mk_Counter ck_Counter x.Counters k }
def cs_Layout (x : Layout) : Nat := csum ck_Counter x.Counters
theorem f131_mark {x : List Counter} {k : Int} (hx : (smL (fun _ => True)) x) (h0 : 0 ≤ k) (hb : k + ((csum ck_Counter x : Nat) : Int) ≤ 4611686018427387904) : f131 x k = some (markAll mk_Counter ck_Counter x k, k + ((csum ck_Counter x : Nat) : Int)) := by
  have hl := hx.1
  unfold f131
  refine mark_loop (F := f131_L1) (fun xs k i => (xs, k, i)) mk_Counter ck_Counter (fun _ => True) x.length (fun pre y post k hp h0 hb hn => ?_) (fun ys k hn => ?_) x [] k hx.2 h0 hb rfl
  · have hlen := len_mid hn
    have hb' : k + ((1 + (1) : Nat) : Int) ≤ 4611686018427387904 := hb
    unfold f131_L1
    simp (disch := omega) only [lt_mid, cond_true, getI_mid, set_mid, Option.bind_some, w64_up]
    rw [show k + ((ck_Counter y : Nat) : Int) = k + 1 + 1 from by show k + ((1 + (1) : Nat) : Int) = _; omega]
    rfl
  · unfold f131_L1
    simp only [← hn, lt_f, cond_false, Option.map_some]
theorem f30_mark {x : Layout} {k : Int} (hx : smLayout x) (h0 : 0 ≤ k) (hb : k + ((cs_Layout x : Nat) : Int) ≤ 4611686018427387904) : f30 x k = some (ms_Layout x k, k + ((cs_Layout x : Nat) : Int)) := by
  unfold cs_Layout at hb
  unfold f30
  rw [f131_mark (x := x.Counters) (k := k) hx (by omega) (by omega), Option.bind_some]
  dsimp only
  rw [show k + ((cs_Layout x : Nat) : Int) = k + ((csum ck_Counter x.Counters : Nat) : Int) from by unfold cs_Layout; omega]
  rfl
theorem ck_Counter_le (x : Counter) (hx : (fun _ => True) x) : ck_Counter x ≤ 2 := by
  unfold ck_Counter
  omega
theorem cs_Layout_le (x : Layout) (hx : smLayout x) : cs_Layout x ≤ 2097152 := by
  unfold cs_Layout
  have h0 : (csum ck_Counter) x.Counters ≤ 2097152 := by
    have h := (fun _ hx => csum_bd (p := (fun _ => True)) ck_Counter_le hx.1 hx.2) x.Counters hx
    exact h
  omega
def mk_Section (x : Section) (k : Int) : Section := { Told := k, Count := k + 1, Lost := (Int.tmod (k + 1 + 1) 3 == 0), Sweep := (Int.tmod (k + 1 + 1 + 1) 3 == 0), Last := k + 1 + 1 + 1 + 1 }
def ck_Section (x : Section) : Nat := 1 + (1 + (1 + (1 + (1))))
def ms_CountState (x : CountState) (k : Int) : CountState := { Ok := x.Ok, Sections := markAll mk_Section ck_Section x.Sections k, Dead := markAll mkB (fun _ => 1) x.Dead (k + ((csum ck_Section x.Sections : Nat) : Int)) }
def cs_CountState (x : CountState) : Nat := csum ck_Section x.Sections + (csum (fun _ => 1) x.Dead)
theorem f134_mark {x : List Section} {k : Int} (hx : (smL (fun _ => True)) x) (h0 : 0 ≤ k) (hb : k + ((csum ck_Section x : Nat) : Int) ≤ 4611686018427387904) : f134 x k = some (markAll mk_Section ck_Section x k, k + ((csum ck_Section x : Nat) : Int)) := by
  have hl := hx.1
  unfold f134
  refine mark_loop (F := f134_L1) (fun xs k i => (xs, k, i)) mk_Section ck_Section (fun _ => True) x.length (fun pre y post k hp h0 hb hn => ?_) (fun ys k hn => ?_) x [] k hx.2 h0 hb rfl
  · have hlen := len_mid hn
    have hb' : k + ((1 + (1 + (1 + (1 + (1)))) : Nat) : Int) ≤ 4611686018427387904 := hb
    unfold f134_L1
    simp (disch := omega) only [lt_mid, cond_true, getI_mid, set_mid, Option.bind_some, w64_up]
    rw [show k + ((ck_Section y : Nat) : Int) = k + 1 + 1 + 1 + 1 + 1 from by show k + ((1 + (1 + (1 + (1 + (1)))) : Nat) : Int) = _; omega]
    rfl
  · unfold f134_L1
    simp only [← hn, lt_f, cond_false, Option.map_some]
theorem f135_mark {x : List Bool} {k : Int} (hx : (smL (fun _ => True)) x) (h0 : 0 ≤ k) (hb : k + ((csum (fun _ => 1) x : Nat) : Int) ≤ 4611686018427387904) : f135 x k = some (markAll mkB (fun _ => 1) x k, k + ((csum (fun _ => 1) x : Nat) : Int)) := by
  have hl := hx.1
  unfold f135
  refine mark_loop (F := f135_L1) (fun xs k i => (xs, k, i)) mkB (fun _ => 1) (fun _ => True) x.length (fun pre y post k hp h0 hb hn => ?_) (fun ys k hn => ?_) x [] k hx.2 h0 hb rfl
  · have hlen := len_mid hn
    have hb' : k + ((1 : Nat) : Int) ≤ 4611686018427387904 := hb
    unfold f135_L1
    simp (disch := omega) only [lt_mid, cond_true, getI_mid, set_mid, Option.bind_some, w64_up]
    rw [show k + (((fun _ => 1) y : Nat) : Int) = k + 1 from by show k + ((1 : Nat) : Int) = _; omega]
    rfl
  · unfold f135_L1
    simp only [← hn, lt_f, cond_false, Option.map_some]
theorem f36_mark {x : CountState} {k : Int} (hx : smCountState x) (h0 : 0 ≤ k) (hb : k + ((cs_CountState x : Nat) : Int) ≤ 4611686018427387904) : f36 x k = some (ms_CountState x k, k + ((cs_CountState x : Nat) : Int)) := by
  unfold cs_CountState at hb
  unfold f36
  rw [f134_mark (x := x.Sections) (k := k) hx.1 (by omega) (by omega), Option.bind_some]
  dsimp only
  rw [f135_mark (x := x.Dead) (k := k + ((csum ck_Section x.Sections : Nat) : Int)) hx.2 (by omega) (by omega), Option.bind_some]
  dsimp only
  rw [show k + ((cs_CountState x : Nat) : Int) = k + ((csum ck_Section x.Sections : Nat) : Int) + ((csum (fun _ => 1) x.Dead : Nat) : Int) from by unfold cs_CountState; omega]
  rfl
theorem ck_Section_le (x : Section) (hx : (fun _ => True) x) : ck_Section x ≤ 5 := by
  unfold ck_Section
  omega
theorem cs_CountState_le (x : CountState) (hx : smCountState x) : cs_CountState x ≤ 6291456 := by
  unfold cs_CountState
  have h0 : (csum ck_Section) x.Sections ≤ 5242880 := by
    have h := (fun _ hx => csum_bd (p := (fun _ => True)) ck_Section_le hx.1 hx.2) x.Sections hx.1
    exact h
  have h1 : (csum (fun _ => 1)) x.Dead ≤ 1048576 := by
    have h := (fun _ hx => csum_bd (p := (fun _ => True)) (fun _ _ => Nat.le_refl 1) hx.1 hx.2) x.Dead hx.2
    exact h
  omega
def ms_CountDone (x : CountDone) (k : Int) : CountDone := { Code := x.Code, State := ms_CountState x.State k }
def cs_CountDone (x : CountDone) : Nat := cs_CountState x.State
theorem f75_mark {x : CountDone} {k : Int} (hx : smCountDone x) (h0 : 0 ≤ k) (hb : k + ((cs_CountDone x : Nat) : Int) ≤ 4611686018427387904) : f75 x k = some (ms_CountDone x k, k + ((cs_CountDone x : Nat) : Int)) := by
  unfold cs_CountDone at hb
  unfold f75
  rw [f36_mark (x := x.State) (k := k) hx (by omega) (by omega), Option.bind_some]
  dsimp only
  rw [show k + ((cs_CountDone x : Nat) : Int) = k + ((cs_CountState x.State : Nat) : Int) from by unfold cs_CountDone; omega]
  rfl
theorem cs_CountDone_le (x : CountDone) (hx : smCountDone x) : cs_CountDone x ≤ 6291456 := by
  unfold cs_CountDone
  have h0 : cs_CountState x.State ≤ 6291456 := by
    have h := cs_CountState_le x.State hx
    exact h
  omega
theorem f136_held {x : List Section} {k : Int} (hx : (smL (fun _ => True)) x) (h0 : 0 ≤ k) (hb : k + ((csum ck_Section x : Nat) : Int) ≤ 4611686018427387904) : f136 (markAll mk_Section ck_Section x k) k = some (k + ((csum ck_Section x : Nat) : Int)) := by
  have hl := hx.1
  unfold f136
  refine held_loop (F := f136_L1 (markAll mk_Section ck_Section x k)) (fun k i => (k, i)) mk_Section ck_Section (fun _ => True) (markAll mk_Section ck_Section x k) (fun i y k hp h0 hb hy => ?_) (fun k2 => ?_) x [] k rfl hx.2 h0 hb
  · have hlen := get_lt hy
    have hlt := lt_t hlen
    rw [markAll_len] at hlen
    have hb' : k + ((1 + (1 + (1 + (1 + (1)))) : Nat) : Int) ≤ 4611686018427387904 := hb
    unfold f136_L1
    simp (disch := omega) only [hlt, cond_true, getI_nat, hy, Option.bind_some, mk_Section, bne_self_eq_false, beq_self_eq_true, Bool.not_true, cond_false, w64_up, ltz]
    rw [show k + ((ck_Section y : Nat) : Int) = k + 1 + 1 + 1 + 1 + 1 from by show k + ((1 + (1 + (1 + (1 + (1)))) : Nat) : Int) = _; omega]
    rfl
  · unfold f136_L1
    simp only [lt_f, cond_false, Option.map_some]
theorem f137_held {x : List Bool} {k : Int} (hx : (smL (fun _ => True)) x) (h0 : 0 ≤ k) (hb : k + ((csum (fun _ => 1) x : Nat) : Int) ≤ 4611686018427387904) : f137 (markAll mkB (fun _ => 1) x k) k = some (k + ((csum (fun _ => 1) x : Nat) : Int)) := by
  have hl := hx.1
  unfold f137
  refine held_loop (F := f137_L1 (markAll mkB (fun _ => 1) x k)) (fun k i => (k, i)) mkB (fun _ => 1) (fun _ => True) (markAll mkB (fun _ => 1) x k) (fun i y k hp h0 hb hy => ?_) (fun k2 => ?_) x [] k rfl hx.2 h0 hb
  · have hlen := get_lt hy
    have hlt := lt_t hlen
    rw [markAll_len] at hlen
    have hb' : k + ((1 : Nat) : Int) ≤ 4611686018427387904 := hb
    unfold f137_L1
    simp (disch := omega) only [hlt, cond_true, getI_nat, hy, Option.bind_some, mkB, bne_self_eq_false, beq_self_eq_true, Bool.not_true, cond_false, w64_up, ltz]
    rw [show k + (((fun _ => 1) y : Nat) : Int) = k + 1 from by show k + ((1 : Nat) : Int) = _; omega]
    rfl
  · unfold f137_L1
    simp only [lt_f, cond_false, Option.map_some]
theorem f37_held {x : CountState} {k : Int} (hx : smCountState x) (h0 : 0 ≤ k) (hb : k + ((cs_CountState x : Nat) : Int) ≤ 4611686018427387904) : f37 (ms_CountState x k) k = some (k + ((cs_CountState x : Nat) : Int)) := by
  unfold cs_CountState at hb
  unfold f37 ms_CountState
  dsimp only
  rw [f136_held (x := x.Sections) (k := k) hx.1 (by omega) (by omega), Option.bind_some, ltz (by omega), cond_false]
  rw [f137_held (x := x.Dead) (k := k + ((csum ck_Section x.Sections : Nat) : Int)) hx.2 (by omega) (by omega), Option.bind_some, ltz (by omega), cond_false]
  rw [show k + ((cs_CountState x : Nat) : Int) = k + ((csum ck_Section x.Sections : Nat) : Int) + ((csum (fun _ => 1) x.Dead : Nat) : Int) from by unfold cs_CountState; omega]
theorem f76_held {x : CountDone} {k : Int} (hx : smCountDone x) (h0 : 0 ≤ k) (hb : k + ((cs_CountDone x : Nat) : Int) ≤ 4611686018427387904) : f76 (ms_CountDone x k) k = some (k + ((cs_CountDone x : Nat) : Int)) := by
  unfold cs_CountDone at hb
  unfold f76 ms_CountDone
  dsimp only
  rw [f37_held (x := x.State) (k := k) hx (by omega) (by omega), Option.bind_some, ltz (by omega), cond_false]
  rw [show k + ((cs_CountDone x : Nat) : Int) = k + ((cs_CountState x.State : Nat) : Int) from by unfold cs_CountDone; omega]
theorem law11 (aAL0 : Layout) (aAS1 : CountState) (aAE2 : CountEvent) (haAL0 : fitLayout aAL0) (haAS1 : fitCountState aAS1) (haAE2 : fitCountEvent aAE2) : f11 aAL0 aAS1 aAE2 = some true := by
  unfold f11
  obtain ⟨v0, e0, a0, b0⟩ := f24_sz (x := aAL0) (left := 1048576) (by omega) (by omega) haAL0
  rw [e0, Option.bind_some]
  rcases Bool.eq_false_or_eq_true (decide (v0 < (0 : Int))) with hb0 | hb0
  · rw [hb0]; rfl
  rw [hb0, cond_false]; simp only [decide_eq_false_iff_not] at hb0
  have saAL0 := b0.resolve_left hb0
  obtain ⟨v1, e1, a1, b1⟩ := f69_sz (x := aAS1) (left := v0) (by omega) (by omega) haAS1
  rw [e1, Option.bind_some]
  rcases Bool.eq_false_or_eq_true (decide (v1 < (0 : Int))) with hb1 | hb1
  · rw [hb1]; rfl
  rw [hb1, cond_false]; simp only [decide_eq_false_iff_not] at hb1
  have saAS1 := b1.resolve_left hb1
  obtain ⟨r, m1, m2, m3⟩ := main11 haAL0 haAS1 haAE2 saAL0 saAS1
  have u0 : cs_Layout aAL0 ≤ 2097152 := by
    have h := cs_Layout_le aAL0 saAL0
    exact h
  have k0 := f30_mark (x := aAL0) (k := (1 : Int)) saAL0 (by omega) (by omega)
  have u1 : cs_CountState aAS1 ≤ 6291456 := by
    have h := cs_CountState_le aAS1 saAS1
    exact h
  have k1 := f36_mark (x := aAS1) (k := (1 : Int) + ((cs_Layout aAL0 : Nat) : Int)) saAS1 (by omega) (by omega)
  have u2 : cs_CountDone r ≤ 6291456 := by
    have h := cs_CountDone_le r m3
    exact h
  have k2 := f75_mark (x := r) (k := (1 : Int)) m3 (by omega) (by omega)
  have j2 := f76_held (x := r) (k := (1 : Int)) m3 (by omega) (by omega)
  simp only [f26_to (x := aAL0) saAL0, f71_to (x := aAS1) saAS1, f72_to (x := aAE2) trivial, f29_eq (x := aAL0) saAL0, f35_eq (x := aAS1) saAS1, f74_eq (x := r) m3, k0, ltz (show (0:Int) ≤ (1 : Int) + ((cs_Layout aAL0 : Nat) : Int) by omega), k1, ltz (show (0:Int) ≤ (1 : Int) + ((cs_Layout aAL0 : Nat) : Int) + ((cs_CountState aAS1 : Nat) : Int) by omega), k2, ltz (show (0:Int) ≤ (1 : Int) + ((cs_CountDone r : Nat) : Int) by omega), j2, Option.bind_some, m1, m2, bne_self_eq_false, beq_self_eq_true, Bool.not_true, cond_false]

end
end Go.Proofs.Ytkfekjcahepfnaa.K
