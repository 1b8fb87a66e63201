/-
  The plain part of the law FnExactCountOk: on typed values it returns true at every input. No conditions.
-/
import Derived.Test.YtgpbnbmddffhkaaDe
set_option linter.unusedVariables false
set_option linter.unusedSimpArgs false
set_option maxRecDepth 100000
namespace Go.Proofs.Ytgpbnbmddffhkaa.K
noncomputable section
open Go.ChangeShapes Go.WideShapes Go.ChangeAt Go.RowKit
abbrev fitCounter (x : Counter) : Prop := fitsI x.From ∧ fitsI x.To
abbrev fitLayout (x : Layout) : Prop := fitsI x.Sections ∧ (fitsL fitCounter) x.Counters
abbrev smLayout (x : Layout) : Prop := (smL (fun _ => True)) x.Counters
abbrev fitSection (x : Section) : Prop := fitsI x.Told ∧ fitsI x.Count ∧ (fun _ => True) x.Lost ∧ (fun _ => True) x.Sweep ∧ fitsI x.Last
abbrev fitCountState (x : CountState) : Prop := (fun _ => True) x.Ok ∧ (fitsL fitSection) x.Sections ∧ (fitsL (fun _ => True)) x.Dead
abbrev smCountState (x : CountState) : Prop := (smL (fun _ => True)) x.Sections ∧ (smL (fun _ => True)) x.Dead
theorem rd3 : Reads Try.prog 3 Int fitsI := reads_int Try.underlying3
theorem rd229 : Reads Try.prog 229 Counter fitCounter := by
  intro K enc W sp fuel cs d ps h
  obtain ⟨fu, hl, hf⟩ := trod_struct Try.underlying229 h
  have hl : cs.length = 2 := hl
  obtain ⟨_, _, h0⟩ := hf _ (List.Mem.head _)
  obtain ⟨x0, r0, g0⟩ := rd3 _ _ _ _ _ _ _ h0
  obtain ⟨_, _, h1⟩ := hf _ (List.Mem.tail _ (List.Mem.head _))
  obtain ⟨x1, r1, g1⟩ := rd3 _ _ _ _ _ _ _ h1
  exact ⟨⟨x0, x1⟩, fld (off := 0) (sz := 1) r0 (fldLast (sz := 1) hl r1), g0, g1⟩
theorem rd22 : Reads Try.prog 22 (List Counter) (fitsL fitCounter) := reads_slice Try.underlying22 rfl rd229
theorem rd24 : Reads Try.prog 24 Layout fitLayout := by
  intro K enc W sp fuel cs d ps h
  obtain ⟨fu, hl, hf⟩ := trod_struct Try.underlying24 h
  have hl : cs.length = 2 := hl
  obtain ⟨_, _, h0⟩ := hf _ (List.Mem.head _)
  obtain ⟨x0, r0, g0⟩ := rd3 _ _ _ _ _ _ _ h0
  obtain ⟨_, _, h1⟩ := hf _ (List.Mem.tail _ (List.Mem.head _))
  obtain ⟨x1, r1, g1⟩ := rd22 _ _ _ _ _ _ _ h1
  exact ⟨⟨x0, x1⟩, fld (off := 0) (sz := 1) r0 (fldLast (sz := 1) hl r1), g0, g1⟩
theorem rd4 : Reads Try.prog 4 Bool (fun _ => True) := reads_bool Try.underlying4
theorem rd231 : Reads Try.prog 231 Section fitSection := by
  intro K enc W sp fuel cs d ps h
  obtain ⟨fu, hl, hf⟩ := trod_struct Try.underlying231 h
  have hl : cs.length = 5 := hl
  obtain ⟨_, _, h0⟩ := hf _ (List.Mem.head _)
  obtain ⟨x0, r0, g0⟩ := rd3 _ _ _ _ _ _ _ h0
  obtain ⟨_, _, h1⟩ := hf _ (List.Mem.tail _ (List.Mem.head _))
  obtain ⟨x1, r1, g1⟩ := rd3 _ _ _ _ _ _ _ h1
  obtain ⟨_, _, h2⟩ := hf _ (List.Mem.tail _ (List.Mem.tail _ (List.Mem.head _)))
  obtain ⟨x2, r2, g2⟩ := rd4 _ _ _ _ _ _ _ h2
  obtain ⟨_, _, h3⟩ := hf _ (List.Mem.tail _ (List.Mem.tail _ (List.Mem.tail _ (List.Mem.head _))))
  obtain ⟨x3, r3, g3⟩ := rd4 _ _ _ _ _ _ _ h3
  obtain ⟨_, _, h4⟩ := hf _ (List.Mem.tail _ (List.Mem.tail _ (List.Mem.tail _ (List.Mem.tail _ (List.Mem.head _)))))
  obtain ⟨x4, r4, g4⟩ := rd3 _ _ _ _ _ _ _ h4
  exact ⟨⟨x0, x1, x2, x3, x4⟩, fld (off := 0) (sz := 1) r0 (fld (off := 1) (sz := 1) r1 (fld (off := 2) (sz := 1) r2 (fld (off := 3) (sz := 1) r3 (fldLast (sz := 1) hl r4)))), g0, g1, g2, g3, g4⟩
theorem rd25 : Reads Try.prog 25 (List Section) (fitsL fitSection) := reads_slice Try.underlying25 rfl rd231
theorem rd26 : Reads Try.prog 26 (List Bool) (fitsL (fun _ => True)) := reads_slice Try.underlying26 rfl rd4
theorem rd28 : Reads Try.prog 28 CountState fitCountState := by
  intro K enc W sp fuel cs d ps h
  obtain ⟨fu, hl, hf⟩ := trod_struct Try.underlying28 h
  have hl : cs.length = 3 := hl
  obtain ⟨_, _, h0⟩ := hf _ (List.Mem.head _)
  obtain ⟨x0, r0, g0⟩ := rd4 _ _ _ _ _ _ _ h0
  obtain ⟨_, _, h1⟩ := hf _ (List.Mem.tail _ (List.Mem.head _))
  obtain ⟨x1, r1, g1⟩ := rd25 _ _ _ _ _ _ _ h1
  obtain ⟨_, _, h2⟩ := hf _ (List.Mem.tail _ (List.Mem.tail _ (List.Mem.head _)))
  obtain ⟨x2, r2, g2⟩ := rd26 _ _ _ _ _ _ _ h2
  exact ⟨⟨x0, x1, x2⟩, fld (off := 0) (sz := 1) r0 (fld (off := 1) (sz := 1) r1 (fldLast (sz := 1) hl r2)), g0, g1, g2⟩
theorem f68_sz {x : List Counter} {left : Int} (h0 : 0 ≤ left) (h1 : left ≤ 1048576) (hx : (fitsL fitCounter) x) : ∃ v, f68 x left = some v ∧ v ≤ left ∧ (v < 0 ∨ (smL (fun _ => True)) x) := by
  unfold f68
  obtain ⟨v, e1, e2, e3⟩ := sz_flat (xs := x) h0 h1 hx.1
  exact ⟨v, e1, e2, e3.imp id fun h => ⟨h.1, fun _ _ => trivial⟩⟩
theorem f15_sz {x : Layout} {left : Int} (h0 : 0 ≤ left) (h1 : left ≤ 1048576) (hx : fitLayout x) : ∃ v, f15 x left = some v ∧ v ≤ left ∧ (v < 0 ∨ smLayout x) := by
  unfold f15
  obtain ⟨v0, e0, a0, b0⟩ := f68_sz (x := x.Counters) (left := left) (by omega) (by omega) hx.2
  rw [e0, Option.bind_some]
  rcases Bool.eq_false_or_eq_true (decide (v0 < (0 : Int))) with hb0 | hb0
  · rw [hb0]; exact ⟨_, rfl, by omega, .inl (by decide)⟩
  rw [hb0, cond_false]; simp only [decide_eq_false_iff_not] at hb0
  exact ⟨_, rfl, by omega, .inr (b0.resolve_left hb0)⟩
theorem f69_sz {x : List Section} {left : Int} (h0 : 0 ≤ left) (h1 : left ≤ 1048576) (hx : (fitsL fitSection) x) : ∃ v, f69 x left = some v ∧ v ≤ left ∧ (v < 0 ∨ (smL (fun _ => True)) x) := by
  unfold f69
  obtain ⟨v, e1, e2, e3⟩ := sz_flat (xs := x) h0 h1 hx.1
  exact ⟨v, e1, e2, e3.imp id fun h => ⟨h.1, fun _ _ => trivial⟩⟩
theorem f70_sz {x : List Bool} {left : Int} (h0 : 0 ≤ left) (h1 : left ≤ 1048576) (hx : (fitsL (fun _ => True)) x) : ∃ v, f70 x left = some v ∧ v ≤ left ∧ (v < 0 ∨ (smL (fun _ => True)) x) := by
  unfold f70
  obtain ⟨v, e1, e2, e3⟩ := sz_flat (xs := x) h0 h1 hx.1
  exact ⟨v, e1, e2, e3.imp id fun h => ⟨h.1, fun _ _ => trivial⟩⟩
theorem f16_sz {x : CountState} {left : Int} (h0 : 0 ≤ left) (h1 : left ≤ 1048576) (hx : fitCountState x) : ∃ v, f16 x left = some v ∧ v ≤ left ∧ (v < 0 ∨ smCountState x) := by
  unfold f16
  obtain ⟨v0, e0, a0, b0⟩ := f69_sz (x := x.Sections) (left := left) (by omega) (by omega) hx.2.1
  rw [e0, Option.bind_some]
  rcases Bool.eq_false_or_eq_true (decide (v0 < (0 : Int))) with hb0 | hb0
  · rw [hb0]; exact ⟨_, rfl, by omega, .inl (by decide)⟩
  rw [hb0, cond_false]; simp only [decide_eq_false_iff_not] at hb0
  obtain ⟨v1, e1, a1, b1⟩ := f70_sz (x := x.Dead) (left := v0) (by omega) (by omega) hx.2.2
  rw [e1, Option.bind_some]
  rcases Bool.eq_false_or_eq_true (decide (v1 < (0 : Int))) with hb1 | hb1
  · rw [hb1]; exact ⟨_, rfl, by omega, .inl (by decide)⟩
  rw [hb1, cond_false]; simp only [decide_eq_false_iff_not] at hb1
  exact ⟨_, rfl, by omega, .inr ⟨b0.resolve_left hb0, b1.resolve_left hb1⟩⟩
theorem f161_to {x : Counter} (hx : (fun _ => True) x) : f161 x = some x := by
  unfold f161
  rfl
theorem f75_to {x : List Counter} (hx : (smL (fun _ => True)) x) : f75 x = some x := by
  have hl := hx.1
  unfold f75
  rw [makeB_ok (by omega), Option.bind_some]
  have := fill x (fun y => y) (⟨0, 0⟩ : Counter) (F := f75_L1 x) (fun ys i y hi hy => ?_) (fun ys => ?_)
  · rw [List.map_id'] at this; exact this
  · have hlt := get_lt hi
    unfold f75_L1
    have hg := f161_to (x := y) (hx.2 _ (List.mem_of_getElem? hi))
    simp only [lt_t (get_lt hi), cond_true, getI_nat, hi, Option.bind_some, hg]
    rw [List.getElem?_eq_getElem (by omega), Option.bind_some, w64_nat (by omega)]
    rfl
  · unfold f75_L1
    simp only [lt_f, cond_false, Option.map_some]
theorem f18_to {x : Layout} (hx : smLayout x) : f18 x = some x := by
  unfold f18
  rw [f75_to (x := x.Counters) hx]
  rfl
theorem f162_to {x : Section} (hx : (fun _ => True) x) : f162 x = some x := by
  unfold f162
  rfl
theorem f76_to {x : List Section} (hx : (smL (fun _ => True)) x) : f76 x = some x := by
  have hl := hx.1
  unfold f76
  rw [makeB_ok (by omega), Option.bind_some]
  have := fill x (fun y => y) (⟨0, 0, false, false, 0⟩ : Section) (F := f76_L1 x) (fun ys i y hi hy => ?_) (fun ys => ?_)
  · rw [List.map_id'] at this; exact this
  · have hlt := get_lt hi
    unfold f76_L1
    have hg := f162_to (x := y) (hx.2 _ (List.mem_of_getElem? hi))
    simp only [lt_t (get_lt hi), cond_true, getI_nat, hi, Option.bind_some, hg]
    rw [List.getElem?_eq_getElem (by omega), Option.bind_some, w64_nat (by omega)]
    rfl
  · unfold f76_L1
    simp only [lt_f, cond_false, Option.map_some]
theorem f77_to {x : List Bool} (hx : (smL (fun _ => True)) x) : f77 x = some x := by
  have hl := hx.1
  unfold f77
  rw [makeB_ok (by omega), Option.bind_some]
  have := fill x (fun y => y) (false : Bool) (F := f77_L1 x) (fun ys i y hi hy => ?_) (fun ys => ?_)
  · rw [List.map_id'] at this; exact this
  · have hlt := get_lt hi
    unfold f77_L1
    simp only [lt_t (get_lt hi), cond_true, getI_nat, hi, Option.bind_some]
    rw [List.getElem?_eq_getElem (by omega), Option.bind_some, w64_nat (by omega)]
    rfl
  · unfold f77_L1
    simp only [lt_f, cond_false, Option.map_some]
theorem f19_to {x : CountState} (hx : smCountState x) : f19 x = some x := by
  unfold f19
  rw [f76_to (x := x.Sections) hx.1, f77_to (x := x.Dead) hx.2]
  rfl
theorem f164_eq {x : Counter} (hx : (fun _ => True) x) : f164 x x = some true := by
  unfold f164
  simp only [bne_self_eq_false, beq_self_eq_true, Bool.not_true, cond_false]
theorem f81_eq {x : List Counter} (hx : (smL (fun _ => True)) x) : f81 x x = some true := by
  unfold f81
  simp only [bne_self_eq_false, cond_false]
  refine eq_all (F := f81_L1 x x) hx.1 (fun i y hi => ?_) ?_
  · unfold f81_L1
    have hg := f164_eq (x := y) (hx.2 _ (List.mem_of_getElem? hi))
    simp only [lt_t (get_lt hi), cond_true, getI_nat, hi, Option.bind_some, hg, Bool.not_true, cond_false]
  · unfold f81_L1
    simp only [lt_f, cond_false, Option.map_some]
theorem f21_eq {x : Layout} (hx : smLayout x) : f21 x x = some true := by
  unfold f21
  simp only [bne_self_eq_false, beq_self_eq_true, Bool.not_true, cond_false, f81_eq (x := x.Counters) hx, Option.bind_some]
theorem f165_eq {x : Section} (hx : (fun _ => True) x) : f165 x x = some true := by
  unfold f165
  simp only [bne_self_eq_false, beq_self_eq_true, Bool.not_true, cond_false]
theorem f82_eq {x : List Section} (hx : (smL (fun _ => True)) x) : f82 x x = some true := by
  unfold f82
  simp only [bne_self_eq_false, cond_false]
  refine eq_all (F := f82_L1 x x) hx.1 (fun i y hi => ?_) ?_
  · unfold f82_L1
    have hg := f165_eq (x := y) (hx.2 _ (List.mem_of_getElem? hi))
    simp only [lt_t (get_lt hi), cond_true, getI_nat, hi, Option.bind_some, hg, Bool.not_true, cond_false]
  · unfold f82_L1
    simp only [lt_f, cond_false, Option.map_some]
theorem f83_eq {x : List Bool} (hx : (smL (fun _ => True)) x) : f83 x x = some true := by
  unfold f83
  simp only [bne_self_eq_false, cond_false]
  refine eq_all (F := f83_L1 x x) hx.1 (fun i y hi => ?_) ?_
  · unfold f83_L1
    simp only [lt_t (get_lt hi), cond_true, getI_nat, hi, Option.bind_some, bne_self_eq_false, beq_self_eq_true, Bool.not_true, cond_false]
  · unfold f83_L1
    simp only [lt_f, cond_false, Option.map_some]
theorem f22_eq {x : CountState} (hx : smCountState x) : f22 x x = some true := by
  unfold f22
  simp only [bne_self_eq_false, beq_self_eq_true, Bool.not_true, cond_false, f82_eq (x := x.Sections) hx.1, f83_eq (x := x.Dead) hx.2, Option.bind_some]
theorem layoutOk_eq {x : Layout} (hx : fitLayout x) (hs : smLayout x) : ∃ r, f71 x = some r ∧ f78 x = some r ∧ (r = 0 → 1 ≤ x.Sections ∧ x.Sections ≤ 60 ∧ x.Counters.length ≤ 120) := by
  have hl : x.Counters.length ≤ 1048576 := hs.1
  unfold f71 f78
  simp only [f72, Option.bind_some]
  have e1 : (!(decide (x.Sections ≥ 1) && decide (x.Sections ≤ 60)) || decide ((x.Counters.length : Int) > 120)) = ((decide (x.Sections < 1) || decide (x.Sections > 60)) || decide ((x.Counters.length : Int) > 120)) := by
    have a1 : decide (x.Sections < 1) = !decide (x.Sections ≥ 1) := by rw [← decide_not]; congr 1; apply propext; omega
    have a2 : decide (x.Sections > 60) = !decide (x.Sections ≤ 60) := by rw [← decide_not]; congr 1; apply propext; omega
    rw [a1, a2, Bool.not_and]
  rw [e1]
  rcases Bool.eq_false_or_eq_true ((decide (x.Sections < 1) || decide (x.Sections > 60)) || decide ((x.Counters.length : Int) > 120)) with hb | hb
  · rw [hb]
    exact ⟨1, rfl, rfl, fun h => by cases h⟩
  · rw [hb]
    simp only [Bool.or_eq_false_iff, decide_eq_false_iff_not] at hb
    have e2 : f71_L1 x = f78_L1 x := by
      funext s
      unfold f71_L1 f78_L1
      simp only [f72, f163, Option.bind_some]
      rw [w64_id ⟨by omega, by omega⟩]
      have e3 : ∀ y : Int, decide (y ≤ x.Sections - 1) = decide (y < x.Sections) := by intro y; congr 1; apply propext; omega
      simp only [e3]
    rw [e2]
    simp only [cond_false]
    have key : ∃ r, loopO (f78_L1 x) (0 : Int) = some r ∧ True := by
      refine loopO_ex (F := f78_L1 x) (fun _ => True) x.Counters.length (fun i => (i : Int)) (fun i hi => ?_) ?_
      · unfold f78_L1
        simp only [lt_t hi, cond_true, getI_ok hi, Option.bind_some, f163]
        rw [w64_nat (by omega)]
        generalize (decide (x.Counters[i].From ≥ -1) && decide (x.Counters[i].From < x.Sections)) = b1
        generalize (decide (x.Counters[i].To ≥ -1) && decide (x.Counters[i].To < x.Sections)) = b2
        cases b1 <;> cases b2 <;> cases (x.Counters[i].From == x.Counters[i].To) <;> simp
      · unfold f78_L1
        exact ⟨0, by simp only [lt_f, cond_false, Option.map_some], trivial⟩
    obtain ⟨r, h1, _⟩ := key
    exact ⟨r, h1, h1, fun _ => by omega⟩
/-- Does a counter touch a section? -/
def touches (l : Layout) (sec : Int) (i : Nat) : Bool := match l.Counters[i]? with | some c => (c.From == sec) || (c.To == sec) | none => false
theorem specAround_eq {l : Layout} {sec : Int} (hx : fitLayout l) (hs : smLayout l) (h0 : f71 l = some 0) (h1 : 0 ≤ sec) (h2 : sec < l.Sections) : f160 l sec = some (((List.range l.Counters.length).filter (touches l sec)).map fun i : Nat => (i : Int)) := by
  obtain ⟨r, q1, q2, q3⟩ := layoutOk_eq hx hs
  rw [h0] at q1
  simp only [Option.some.injEq] at q1
  obtain ⟨q4, q5, q6⟩ := q3 q1.symm
  unfold f160
  rw [h0, Option.bind_some]
  simp only [f72, Option.bind_some, bne_self_eq_false, cond_false]
  rw [le_pred ⟨by omega, by omega⟩]
  have e1 : decide (sec ≥ 0) = true := by rw [decide_eq_true_eq]; exact h1
  have e2 : decide (sec < l.Sections) = true := by rw [decide_eq_true_eq]; exact h2
  simp only [e1, e2, Bool.and_self, Bool.not_true, cond_false]
  have := loopO_run (F := f160_L1 l sec) l.Counters.length (fun i => (((List.range i).filter (touches l sec)).map (fun i : Nat => (i : Int)), (i : Int))) (r := ((List.range l.Counters.length).filter (touches l sec)).map fun i : Nat => (i : Int)) (fun i hi => ?_) ?_
  · simpa using this
  · unfold f160_L1
    simp only [lt_t hi, cond_true, getI_ok hi, Option.bind_some]
    have hlen : (((List.range i).filter (touches l sec)).map (fun i : Nat => (i : Int))).length ≤ i := by
      rw [List.length_map]
      exact Nat.le_trans (List.length_filter_le _ _) (by simp)
    have ht : touches l sec i = ((l.Counters[i].From == sec) || (l.Counters[i].To == sec)) := by
      unfold touches
      rw [List.getElem?_eq_getElem hi]
    rw [← ht, List.range_succ, List.filter_append, List.map_append]
    cases hb : touches l sec i with
    | true =>
      simp only [cond_true]
      rw [appB_ok (by simp only [List.length_singleton]; omega), Option.bind_some]
      simp only [f160_k2, w64_nat (show i < 9223372036854775807 by omega), List.filter_cons, hb, if_true, List.filter_nil, List.map_cons, List.map_nil]
    | false =>
      simp only [cond_false, f160_k2, w64_nat (show i < 9223372036854775807 by omega), List.filter_cons, hb, Bool.false_eq_true, if_false, List.filter_nil, List.map_nil, List.append_nil]
  · unfold f160_L1
    simp only [lt_f, cond_false, Option.map_some]
/-- Is there a dead counter at a section? -/
def deadAt (l : Layout) (d : List Bool) (sec : Int) : Bool := (List.range l.Counters.length).any fun i => touches l sec i && d.getD i false
theorem l15dead_eq {l : Layout} {d : List Bool} {sec : Int} (hx : fitLayout l) (hs : smLayout l) (h0 : f71 l = some 0) (h1 : 0 ≤ sec) (h2 : sec < l.Sections) (hd : d.length = l.Counters.length) : f74 l d sec = some (deadAt l d sec) := by
  unfold f74
  rw [specAround_eq hx hs h0 h1 h2, Option.bind_some]
  have hs1 := hs.1
  have hlen : (((List.range l.Counters.length).filter (touches l sec)).map (fun i : Nat => (i : Int))).length ≤ l.Counters.length := by
    rw [List.length_map]
    exact Nat.le_trans (List.length_filter_le _ _) (by simp)
  rw [loop_any (((List.range l.Counters.length).filter (touches l sec)).map (fun i : Nat => (i : Int))) (fun c => d.getD c.toNat false) ?_ ?_]
  · exact congrArg some (rng_any l.Counters.length (touches l sec) (fun j => d.getD j false))
  · intro i c hc
    have hi := get_lt hc
    have hm := List.mem_of_getElem? hc
    simp only [List.mem_map, List.mem_filter, List.mem_range] at hm
    obtain ⟨j, ⟨hj, _⟩, rfl⟩ := hm
    unfold f74_L1
    have hjd : j < d.length := by omega
    simp only [lt_t hi, cond_true, getI_nat, hc, Option.bind_some, List.getElem?_eq_getElem hjd, Int.toNat_natCast, List.getD_eq_getElem?_getD, Option.getD_some, w64_nat (show i < 9223372036854775807 by omega)]
    cases d[j] <;> simp
  · unfold f74_L1
    simp only [lt_f, cond_false, Option.map_some]
theorem dead_eq {l : Layout} {s : CountState} {sec : Int} (hs : smLayout l) (hd : s.Dead.length = l.Counters.length) : f80 l s sec = some (deadAt l s.Dead sec) := by
  have hs1 := hs.1
  unfold f80
  rw [loop_anyI l.Counters.length (fun i => touches l sec i && s.Dead.getD i false) ?_ ?_]
  · rfl
  · intro i hi
    unfold f80_L1
    have hjd : i < s.Dead.length := by omega
    have ht : touches l sec i = ((l.Counters[i].From == sec) || (l.Counters[i].To == sec)) := by
      unfold touches
      rw [List.getElem?_eq_getElem hi]
    simp only [lt_t hi, cond_true, getI_ok hi, getI_ok hjd, Option.bind_some, List.getElem?_eq_getElem hjd, List.getD_eq_getElem?_getD, Option.getD_some, w64_nat (show i < 9223372036854775807 by omega), ← ht]
    cases s.Dead[i] <;> cases touches l sec i <;> simp
  · unfold f80_L1
    simp only [lt_f, cond_false, Option.map_some]
theorem countOk_eq {l : Layout} {s : CountState} (hx : fitLayout l) (hs : smLayout l) (hxs : fitCountState s) (hss : smCountState s) : ∃ r, f17 l s = some r ∧ f20 l s = some r := by
  obtain ⟨r, q1, q2, q3⟩ := layoutOk_eq hx hs
  unfold f17 f20
  rw [q1, q2, Option.bind_some, Option.bind_some]
  rcases Bool.eq_false_or_eq_true ((((r != (0 : Int)) || !s.Ok) || ((s.Sections.length : Int) != l.Sections)) || ((s.Dead.length : Int) != (l.Counters.length : Int))) with hb | hb
  · rw [hb]; exact ⟨false, rfl, rfl⟩
  rw [hb]
  simp only [Bool.or_eq_false_iff, bne_eq_false_iff_eq, Bool.not_eq_false'] at hb
  obtain ⟨⟨⟨b1, b2⟩, b3⟩, b4⟩ := hb
  subst b1
  have hd : s.Dead.length = l.Counters.length := by omega
  simp only [cond_false]
  have hs1 := hss.1.1
  have step : ∀ (i : Nat) (hi : i < s.Sections.length), f17_L1 l s (i : Int) = f20_L1 l s (i : Int) ∧ (f20_L1 l s (i : Int) = some (.inl ((i + 1 : Nat) : Int)) ∨ ∃ r, f20_L1 l s (i : Int) = some (.inr r)) := by
    intro i hi
    have d1 := l15dead_eq (d := s.Dead) hx hs q1 (show (0 : Int) ≤ (i : Int) by omega) (show (i : Int) < l.Sections by omega) hd
    have d2 := dead_eq (s := s) (sec := (i : Int)) hs hd
    unfold f17_L1 f20_L1
    simp only [lt_t hi, cond_true, getI_ok hi, Option.bind_some, f72, f73, f79, d1, d2, w64_nat (show i < 9223372036854775807 by omega)]
    generalize s.Sections[i] = c
    generalize deadAt l s.Dead (i : Int) = dd
    have n1 : decide (c.Count < -1000000) = !decide (c.Count ≥ -1000000) := by rw [← decide_not]; congr 1; apply propext; omega
    have n2 : decide (c.Count > 1000000) = !decide (c.Count ≤ 1000000) := by rw [← decide_not]; congr 1; apply propext; omega
    have n3 : decide (c.Last < -1) = !decide (c.Last ≥ -1) := by rw [← decide_not]; congr 1; apply propext; omega
    have n4 : decide (c.Last > 1) = !decide (c.Last ≤ 1) := by rw [← decide_not]; congr 1; apply propext; omega
    rw [n1, n2, n3, n4]
    generalize decide (c.Count ≥ -1000000) = b1
    generalize decide (c.Count ≤ 1000000) = b2
    generalize decide (c.Last ≥ -1) = b3
    generalize decide (c.Last ≤ 1) = b4
    generalize (c.Count == 0) = z1
    generalize (c.Count != 0) = z2
    generalize (c.Last == -1) = z3
    generalize decide (c.Count < 0) = z4
    generalize c.Lost = z5
    generalize c.Sweep = z6
    have hv : ∃ v, (bif dd then some (3 : Int) else bif z5 || z2 && !z6 then some 1 else bif z6 then some 2 else some 0) = some v := by cases dd <;> cases z5 <;> cases z2 <;> cases z6 <;> exact ⟨_, rfl⟩
    obtain ⟨v, hv⟩ := hv
    simp only [hv, Option.bind_some]
    generalize (c.Told != v) = tv
    constructor
    · cases b1 <;> cases b2 <;> cases b3 <;> cases b4 <;> cases tv <;> simp only [Bool.and_true, Bool.and_false, Bool.and_self, Bool.not_true, Bool.not_false, Bool.or_true, Bool.or_false, Bool.or_self, cond_true, cond_false, Option.bind_some, Option.map_some]
      cases z4 <;> cases z5 <;> cases dd <;> simp only [Bool.and_true, Bool.and_false, Bool.and_self, Bool.not_true, Bool.not_false, Bool.or_true, Bool.or_false, Bool.or_self, cond_true, cond_false, Option.bind_some, Option.map_some, Bool.true_and, Bool.false_and, Bool.true_or, Bool.false_or]
    · generalize (!b1 || !b2 || !b3 || !b4) = t1
      have h1 : ∃ t, (bif t1 then some true else some tv) = some t := by cases t1 <;> exact ⟨_, rfl⟩
      obtain ⟨t, h1⟩ := h1
      have h2 : ∃ t, (bif z4 then some true else some dd) = some t := by cases z4 <;> exact ⟨_, rfl⟩
      obtain ⟨t2, h2⟩ := h2
      simp only [h1, h2, Option.bind_some]
      cases t
      · simp only [cond_false]
        generalize (t2 && !z5 || z6 && z1 && z3 && !z5) = t4
        cases t4
        · exact .inl rfl
        · exact .inr ⟨false, rfl⟩
      · exact .inr ⟨false, rfl⟩
  obtain ⟨r, h1, h2⟩ := loop_same (F := f17_L1 l s) (F' := f20_L1 l s) s.Sections.length (fun i hi => (step i hi).1) (by unfold f17_L1 f20_L1; simp only [lt_f, cond_false]) (fun i hi => (step i hi).2) (by unfold f20_L1; exact ⟨true, by simp only [lt_f, cond_false, Option.map_some]⟩)
  exact ⟨r, h1, h2⟩
theorem main3 {x : Layout} {s : CountState} (hx : fitLayout x) (hxs : fitCountState s) (hs : smLayout x) (hss : smCountState s) : ∃ r, f17 x s = some r ∧ f20 x s = some r := countOk_eq hx hs hxs hss

theorem law3 (aAL0 : Layout) (aAS1 : CountState) (haAL0 : fitLayout aAL0) (haAS1 : fitCountState aAS1) : f3 aAL0 aAS1 = some true := by
  unfold f3
  obtain ⟨v0, e0, a0, b0⟩ := f15_sz (x := aAL0) (left := 1048576) (by omega) (by omega) haAL0
  rw [e0, Option.bind_some]
  rcases Bool.eq_false_or_eq_true (decide (v0 < (0 : Int))) with hb0 | hb0
  · rw [hb0]; rfl
  rw [hb0, cond_false]; simp only [decide_eq_false_iff_not] at hb0
  have saAL0 := b0.resolve_left hb0
  obtain ⟨v1, e1, a1, b1⟩ := f16_sz (x := aAS1) (left := v0) (by omega) (by omega) haAS1
  rw [e1, Option.bind_some]
  rcases Bool.eq_false_or_eq_true (decide (v1 < (0 : Int))) with hb1 | hb1
  · rw [hb1]; rfl
  rw [hb1, cond_false]; simp only [decide_eq_false_iff_not] at hb1
  have saAS1 := b1.resolve_left hb1
  obtain ⟨r, m1, m2⟩ := main3 haAL0 haAS1 saAL0 saAS1
  simp only [f18_to (x := aAL0) saAL0, f19_to (x := aAS1) saAS1, f21_eq (x := aAL0) saAL0, f22_eq (x := aAS1) saAS1, Option.bind_some, m1, m2, bne_self_eq_false, beq_self_eq_true, Bool.not_true, cond_false]

end
end Go.Proofs.Ytgpbnbmddffhkaa.K
