/-
  The plain part of the law FnExactAround: on typed values it returns true at every input. No conditions.
-/
import Derived.Test.YtkfekjcahepfnaaDAr
set_option linter.unusedVariables false
set_option linter.unusedSimpArgs false
set_option maxRecDepth 100000
namespace Go.Proofs.Ytkfekjcahepfnaa.K
noncomputable section
open Go.ChangeShapes Go.WideShapes Go.ChangeAt Go.RowKit
abbrev fitCounter (x : Counter) : Prop := fitsI x.From ∧ fitsI x.To
abbrev fitLayout (x : Layout) : Prop := fitsI x.Sections ∧ (fitsL fitCounter) x.Counters
abbrev smLayout (x : Layout) : Prop := (smL (fun _ => True)) x.Counters
theorem rd3 : Reads Try.prog 3 Int fitsI := reads_int Try.underlying3
theorem rd281 : Reads Try.prog 281 Counter fitCounter := by
  intro K enc W sp fuel cs d ps h
  obtain ⟨fu, hl, hf⟩ := trod_struct Try.underlying281 h
  have hl : cs.length = 2 := hl
  obtain ⟨_, _, h0⟩ := hf _ (List.Mem.head _)
  obtain ⟨x0, r0, g0⟩ := rd3 _ _ _ _ _ _ _ h0
  obtain ⟨_, _, h1⟩ := hf _ (List.Mem.tail _ (List.Mem.head _))
  obtain ⟨x1, r1, g1⟩ := rd3 _ _ _ _ _ _ _ h1
  exact ⟨⟨x0, x1⟩, fld (off := 0) (sz := 1) r0 (fldLast (sz := 1) hl r1), g0, g1⟩
theorem rd22 : Reads Try.prog 22 (List Counter) (fitsL fitCounter) := reads_slice Try.underlying22 rfl rd281
theorem rd24 : Reads Try.prog 24 Layout fitLayout := by
  intro K enc W sp fuel cs d ps h
  obtain ⟨fu, hl, hf⟩ := trod_struct Try.underlying24 h
  have hl : cs.length = 2 := hl
  obtain ⟨_, _, h0⟩ := hf _ (List.Mem.head _)
  obtain ⟨x0, r0, g0⟩ := rd3 _ _ _ _ _ _ _ h0
  obtain ⟨_, _, h1⟩ := hf _ (List.Mem.tail _ (List.Mem.head _))
  obtain ⟨x1, r1, g1⟩ := rd22 _ _ _ _ _ _ _ h1
  exact ⟨⟨x0, x1⟩, fld (off := 0) (sz := 1) r0 (fldLast (sz := 1) hl r1), g0, g1⟩
theorem f125_sz {x : List Counter} {left : Int} (h0 : 0 ≤ left) (h1 : left ≤ 1048576) (hx : (fitsL fitCounter) x) : ∃ v, f125 x left = some v ∧ v ≤ left ∧ (v < 0 ∨ (smL (fun _ => True)) x) := by
  unfold f125
  obtain ⟨v, e1, e2, e3⟩ := sz_flat (xs := x) h0 h1 hx.1
  exact ⟨v, e1, e2, e3.imp id fun h => ⟨h.1, fun _ _ => trivial⟩⟩
theorem f24_sz {x : Layout} {left : Int} (h0 : 0 ≤ left) (h1 : left ≤ 1048576) (hx : fitLayout x) : ∃ v, f24 x left = some v ∧ v ≤ left ∧ (v < 0 ∨ smLayout x) := by
  unfold f24
  obtain ⟨v0, e0, a0, b0⟩ := f125_sz (x := x.Counters) (left := left) (by omega) (by omega) hx.2
  rw [e0, Option.bind_some]
  rcases Bool.eq_false_or_eq_true (decide (v0 < (0 : Int))) with hb0 | hb0
  · rw [hb0]; exact ⟨_, rfl, by omega, .inl (by decide)⟩
  rw [hb0, cond_false]; simp only [decide_eq_false_iff_not] at hb0
  exact ⟨_, rfl, by omega, .inr (b0.resolve_left hb0)⟩
theorem f249_to {x : Counter} (hx : (fun _ => True) x) : f249 x = some x := by
  unfold f249
  rfl
theorem f128_to {x : List Counter} (hx : (smL (fun _ => True)) x) : f128 x = some x := by
  have hl := hx.1
  unfold f128
  rw [makeB_ok (by omega), Option.bind_some]
  have := fill x (fun y => y) (⟨0, 0⟩ : Counter) (F := f128_L1 x) (fun ys i y hi hy => ?_) (fun ys => ?_)
  · rw [List.map_id'] at this; exact this
  · have hlt := get_lt hi
    unfold f128_L1
    have hg := f249_to (x := y) (hx.2 _ (List.mem_of_getElem? hi))
    simp only [lt_t (get_lt hi), cond_true, getI_nat, hi, Option.bind_some, hg]
    rw [List.getElem?_eq_getElem (by omega), Option.bind_some, w64_nat (by omega)]
    rfl
  · unfold f128_L1
    simp only [lt_f, cond_false, Option.map_some]
theorem f26_to {x : Layout} (hx : smLayout x) : f26 x = some x := by
  unfold f26
  rw [f128_to (x := x.Counters) hx]
  rfl
theorem f28_eq {x : List Int} (hx : (smL (fun _ => True)) x) : f28 x x = some true := by
  unfold f28
  simp only [bne_self_eq_false, cond_false]
  refine eq_all (F := f28_L1 x x) hx.1 (fun i y hi => ?_) ?_
  · unfold f28_L1
    simp only [lt_t (get_lt hi), cond_true, getI_nat, hi, Option.bind_some, bne_self_eq_false, beq_self_eq_true, Bool.not_true, cond_false]
  · unfold f28_L1
    simp only [lt_f, cond_false, Option.map_some]
theorem f251_eq {x : Counter} (hx : (fun _ => True) x) : f251 x x = some true := by
  unfold f251
  simp only [bne_self_eq_false, beq_self_eq_true, Bool.not_true, cond_false]
theorem f130_eq {x : List Counter} (hx : (smL (fun _ => True)) x) : f130 x x = some true := by
  unfold f130
  simp only [bne_self_eq_false, cond_false]
  refine eq_all (F := f130_L1 x x) hx.1 (fun i y hi => ?_) ?_
  · unfold f130_L1
    have hg := f251_eq (x := y) (hx.2 _ (List.mem_of_getElem? hi))
    simp only [lt_t (get_lt hi), cond_true, getI_nat, hi, Option.bind_some, hg, Bool.not_true, cond_false]
  · unfold f130_L1
    simp only [lt_f, cond_false, Option.map_some]
theorem f29_eq {x : Layout} (hx : smLayout x) : f29 x x = some true := by
  unfold f29
  simp only [bne_self_eq_false, beq_self_eq_true, Bool.not_true, cond_false, f130_eq (x := x.Counters) hx, Option.bind_some]
theorem layoutOk_eq {x : Layout} (hx : fitLayout x) (hs : smLayout x) : ∃ r, f126 x = some r ∧ f129 x = some r ∧ (r = 0 → 1 ≤ x.Sections ∧ x.Sections ≤ 60 ∧ x.Counters.length ≤ 120) := by
  have hl : x.Counters.length ≤ 1048576 := hs.1
  unfold f126 f129
  simp only [f127, Option.bind_some]
  have e1 : (!(decide (x.Sections ≥ 1) && decide (x.Sections ≤ 60)) || decide ((x.Counters.length : Int) > 120)) = ((decide (x.Sections < 1) || decide (x.Sections > 60)) || decide ((x.Counters.length : Int) > 120)) := by
    have a1 : decide (x.Sections < 1) = !decide (x.Sections ≥ 1) := by rw [← decide_not]; congr 1; apply propext; omega
    have a2 : decide (x.Sections > 60) = !decide (x.Sections ≤ 60) := by rw [← decide_not]; congr 1; apply propext; omega
    rw [a1, a2, Bool.not_and]
  rw [e1]
  rcases Bool.eq_false_or_eq_true ((decide (x.Sections < 1) || decide (x.Sections > 60)) || decide ((x.Counters.length : Int) > 120)) with hb | hb
  · rw [hb]
    exact ⟨1, rfl, rfl, fun h => by cases h⟩
  · rw [hb]
    simp only [Bool.or_eq_false_iff, decide_eq_false_iff_not] at hb
    have e2 : f126_L1 x = f129_L1 x := by
      funext s
      unfold f126_L1 f129_L1
      simp only [f127, f250, Option.bind_some]
      rw [w64_id ⟨by omega, by omega⟩]
      have e3 : ∀ y : Int, decide (y ≤ x.Sections - 1) = decide (y < x.Sections) := by intro y; congr 1; apply propext; omega
      simp only [e3]
    rw [e2]
    simp only [cond_false]
    have key : ∃ r, loopO (f129_L1 x) (0 : Int) = some r ∧ True := by
      refine loopO_ex (F := f129_L1 x) (fun _ => True) x.Counters.length (fun i => (i : Int)) (fun i hi => ?_) ?_
      · unfold f129_L1
        simp only [lt_t hi, cond_true, getI_ok hi, Option.bind_some, f250]
        rw [w64_nat (by omega)]
        generalize (decide (x.Counters[i].From ≥ -1) && decide (x.Counters[i].From < x.Sections)) = b1
        generalize (decide (x.Counters[i].To ≥ -1) && decide (x.Counters[i].To < x.Sections)) = b2
        cases b1 <;> cases b2 <;> cases (x.Counters[i].From == x.Counters[i].To) <;> simp
      · unfold f129_L1
        exact ⟨0, by simp only [lt_f, cond_false, Option.map_some], trivial⟩
    obtain ⟨r, h1, _⟩ := key
    exact ⟨r, h1, h1, fun _ => by omega⟩
/-- Does a counter touch a section? -/
def touches (l : Layout) (sec : Int) (i : Nat) : Bool := match l.Counters[i]? with | some c => (c.From == sec) || (c.To == sec) | none => false
theorem specAround_eq {l : Layout} {sec : Int} (hx : fitLayout l) (hs : smLayout l) (h0 : f126 l = some 0) (h1 : 0 ≤ sec) (h2 : sec < l.Sections) : f25 l sec = some (((List.range l.Counters.length).filter (touches l sec)).map fun i : Nat => (i : Int)) := by
  obtain ⟨r, q1, q2, q3⟩ := layoutOk_eq hx hs
  rw [h0] at q1
  simp only [Option.some.injEq] at q1
  obtain ⟨q4, q5, q6⟩ := q3 q1.symm
  unfold f25
  rw [h0, Option.bind_some]
  simp only [f127, Option.bind_some, bne_self_eq_false, cond_false]
  rw [le_pred ⟨by omega, by omega⟩]
  have e1 : decide (sec ≥ 0) = true := by rw [decide_eq_true_eq]; exact h1
  have e2 : decide (sec < l.Sections) = true := by rw [decide_eq_true_eq]; exact h2
  simp only [e1, e2, Bool.and_self, Bool.not_true, cond_false]
  have := loopO_run (F := f25_L1 l sec) l.Counters.length (fun i => (((List.range i).filter (touches l sec)).map (fun i : Nat => (i : Int)), (i : Int))) (r := ((List.range l.Counters.length).filter (touches l sec)).map fun i : Nat => (i : Int)) (fun i hi => ?_) ?_
  · simpa using this
  · unfold f25_L1
    simp only [lt_t hi, cond_true, getI_ok hi, Option.bind_some]
    have hlen : (((List.range i).filter (touches l sec)).map (fun i : Nat => (i : Int))).length ≤ i := by
      rw [List.length_map]
      exact Nat.le_trans (List.length_filter_le _ _) (by simp)
    have ht : touches l sec i = ((l.Counters[i].From == sec) || (l.Counters[i].To == sec)) := by
      unfold touches
      rw [List.getElem?_eq_getElem hi]
    rw [← ht, List.range_succ, List.filter_append, List.map_append]
    cases hb : touches l sec i with
    | true =>
      simp only [cond_true]
      rw [appB_ok (by simp only [List.length_singleton]; omega), Option.bind_some]
      simp only [f25_k2, w64_nat (show i < 9223372036854775807 by omega), List.filter_cons, hb, if_true, List.filter_nil, List.map_cons, List.map_nil]
    | false =>
      simp only [cond_false, f25_k2, w64_nat (show i < 9223372036854775807 by omega), List.filter_cons, hb, Bool.false_eq_true, if_false, List.filter_nil, List.map_nil, List.append_nil]
  · unfold f25_L1
    simp only [lt_f, cond_false, Option.map_some]
theorem implAround_eq {l : Layout} {sec : Int} (hx : fitLayout l) (hs : smLayout l) (h0 : f129 l = some 0) (h1 : 0 ≤ sec) (h2 : sec < l.Sections) (h3 : l.Counters.length ≤ 120) : f27 l sec = some (((List.range l.Counters.length).filter (touches l sec)).map (fun i : Nat => (i : Int))) := by
  unfold f27
  have e1 : decide (sec < 0) = false := by rw [decide_eq_false_iff_not]; omega
  have e2 : decide (sec ≥ l.Sections) = false := by rw [decide_eq_false_iff_not]; omega
  rw [h0, Option.bind_some]
  simp only [e1, e2, bne_self_eq_false, Bool.or_self, cond_false]
  have := loopO_run (F := f27_L1 l sec) l.Counters.length (fun i => (((List.range i).filter (touches l sec)).map (fun i : Nat => (i : Int)), (i : Int))) (r := ((List.range l.Counters.length).filter (touches l sec)).map (fun i : Nat => (i : Int))) (fun i hi => ?_) ?_
  · simpa using this
  · unfold f27_L1
    simp only [lt_t hi, cond_true, getI_ok hi, Option.bind_some]
    have hlen : (((List.range i).filter (touches l sec)).map (fun i : Nat => (i : Int))).length ≤ i := by
      rw [List.length_map]
      exact Nat.le_trans (List.length_filter_le _ _) (by simp)
    have ht : touches l sec i = ((l.Counters[i].From == sec) || (l.Counters[i].To == sec)) := by
      unfold touches
      rw [List.getElem?_eq_getElem hi]
    rw [← ht, List.range_succ, List.filter_append, List.map_append]
    cases hb : touches l sec i with
    | true =>
      simp only [cond_true]
      rw [appB_ok (by simp only [List.length_singleton]; omega), Option.bind_some]
      simp only [f27_k2, w64_nat (show i < 9223372036854775807 by omega), List.filter_cons, hb, if_true, List.filter_nil, List.map_cons, List.map_nil]
    | false =>
      simp only [cond_false, f27_k2, w64_nat (show i < 9223372036854775807 by omega), List.filter_cons, hb, Bool.false_eq_true, if_false, List.filter_nil, List.map_nil, List.append_nil]
  · unfold f27_L1
    simp only [lt_f, cond_false, Option.map_some]
theorem main3 {l : Layout} {sec : Int} (hx : fitLayout l) (hsec : fitsI sec) (hs : smLayout l) : ∃ r, f25 l sec = some r ∧ f27 l sec = some r ∧ smL (fun _ => True) r := by
  obtain ⟨c, q1, q2, q3⟩ := layoutOk_eq hx hs
  have nil : ∃ r : List Int, some ([] : List Int) = some r ∧ some ([] : List Int) = some r ∧ smL (fun _ => True) r := ⟨[], rfl, rfl, by simp, fun _ _ => trivial⟩
  by_cases hc : c = 0
  · obtain ⟨q4, q5, q6⟩ := q3 hc
    subst hc
    by_cases h1 : 0 ≤ sec
    · by_cases h2 : sec < l.Sections
      · refine ⟨_, specAround_eq hx hs q1 h1 h2, implAround_eq hx hs q2 h1 h2 q6, ?_, fun _ _ => trivial⟩
        rw [List.length_map]
        have := List.length_filter_le (touches l sec) (List.range l.Counters.length)
        rw [List.length_range] at this
        omega
      · unfold f25 f27
        rw [q1, q2, Option.bind_some, Option.bind_some]
        have e1 : decide (sec ≥ l.Sections) = true := by rw [decide_eq_true_eq]; omega
        have e2 : decide (sec < l.Sections) = false := by rw [decide_eq_false_iff_not]; exact h2
        simp only [f127, Option.bind_some, bne_self_eq_false, cond_false, e1, Bool.or_true, cond_true]
        rw [le_pred ⟨by omega, by omega⟩]
        simp only [e2, Bool.and_false, Bool.not_false, cond_true]
        exact nil
    · unfold f25 f27
      rw [q1, q2, Option.bind_some, Option.bind_some]
      have e1 : decide (sec < 0) = true := by rw [decide_eq_true_eq]; omega
      have e2 : decide (sec ≥ 0) = false := by rw [decide_eq_false_iff_not]; exact h1
      simp only [f127, Option.bind_some, bne_self_eq_false, cond_false, e1, e2, Bool.false_and, Bool.not_false, Bool.or_true, Bool.true_or, cond_true]
      exact nil
  · unfold f25 f27
    rw [q1, q2, Option.bind_some, Option.bind_some]
    have e1 : (c != 0) = true := by simp [hc]
    simp only [e1, cond_true, Option.bind_some, Bool.true_or]
    exact nil

def mk_Counter (x : Counter) (k : Int) : Counter := { From := k, To := k + 1 }
def ck_Counter (x : Counter) : Nat := 1 + (1)
def ms_Layout (x : Layout) (k : Int) : Layout := { Sections := x.Sections, Counters := markAll mk_Counter ck_Counter x.Counters k }
def cs_Layout (x : Layout) : Nat := csum ck_Counter x.Counters
theorem f131_mark {x : List Counter} {k : Int} (hx : (smL (fun _ => True)) x) (h0 : 0 ≤ k) (hb : k + ((csum ck_Counter x : Nat) : Int) ≤ 4611686018427387904) : f131 x k = some (markAll mk_Counter ck_Counter x k, k + ((csum ck_Counter x : Nat) : Int)) := by
  have hl := hx.1
  unfold f131
  refine mark_loop (F := f131_L1) (fun xs k i => (xs, k, i)) mk_Counter ck_Counter (fun _ => True) x.length (fun pre y post k hp h0 hb hn => ?_) (fun ys k hn => ?_) x [] k hx.2 h0 hb rfl
  · have hlen := len_mid hn
    have hb' : k + ((1 + (1) : Nat) : Int) ≤ 4611686018427387904 := hb
    unfold f131_L1
    simp (disch := omega) only [lt_mid, cond_true, getI_mid, set_mid, Option.bind_some, w64_up]
    rw [show k + ((ck_Counter y : Nat) : Int) = k + 1 + 1 from by show k + ((1 + (1) : Nat) : Int) = _; omega]
    rfl
  · unfold f131_L1
    simp only [← hn, lt_f, cond_false, Option.map_some]
theorem f30_mark {x : Layout} {k : Int} (hx : smLayout x) (h0 : 0 ≤ k) (hb : k + ((cs_Layout x : Nat) : Int) ≤ 4611686018427387904) : f30 x k = some (ms_Layout x k, k + ((cs_Layout x : Nat) : Int)) := by
  unfold cs_Layout at hb
  unfold f30
  rw [f131_mark (x := x.Counters) (k := k) hx (by omega) (by omega), Option.bind_some]
  dsimp only
  rw [show k + ((cs_Layout x : Nat) : Int) = k + ((csum ck_Counter x.Counters : Nat) : Int) from by unfold cs_Layout; omega]
  rfl
theorem ck_Counter_le (x : Counter) (hx : (fun _ => True) x) : ck_Counter x ≤ 2 := by
  unfold ck_Counter
  omega
theorem cs_Layout_le (x : Layout) (hx : smLayout x) : cs_Layout x ≤ 2097152 := by
  unfold cs_Layout
  have h0 := (fun _ hx => csum_bd (p := (fun _ => True)) ck_Counter_le hx.1 hx.2) x.Counters hx
  omega
theorem f31_mark {x : List Int} {k : Int} (hx : (smL (fun _ => True)) x) (h0 : 0 ≤ k) (hb : k + ((csum (fun _ => 1) x : Nat) : Int) ≤ 4611686018427387904) : f31 x k = some (markAll mkI (fun _ => 1) x k, k + ((csum (fun _ => 1) x : Nat) : Int)) := by
  have hl := hx.1
  unfold f31
  refine mark_loop (F := f31_L1) (fun xs k i => (xs, k, i)) mkI (fun _ => 1) (fun _ => True) x.length (fun pre y post k hp h0 hb hn => ?_) (fun ys k hn => ?_) x [] k hx.2 h0 hb rfl
  · have hlen := len_mid hn
    have hb' : k + ((1 : Nat) : Int) ≤ 4611686018427387904 := hb
    unfold f31_L1
    simp (disch := omega) only [lt_mid, cond_true, getI_mid, set_mid, Option.bind_some, w64_up]
    rw [show k + (((fun _ => 1) y : Nat) : Int) = k + 1 from by show k + ((1 : Nat) : Int) = _; omega]
    rfl
  · unfold f31_L1
    simp only [← hn, lt_f, cond_false, Option.map_some]
theorem f32_held {x : List Int} {k : Int} (hx : (smL (fun _ => True)) x) (h0 : 0 ≤ k) (hb : k + ((csum (fun _ => 1) x : Nat) : Int) ≤ 4611686018427387904) : f32 (markAll mkI (fun _ => 1) x k) k = some (k + ((csum (fun _ => 1) x : Nat) : Int)) := by
  have hl := hx.1
  unfold f32
  refine held_loop (F := f32_L1 (markAll mkI (fun _ => 1) x k)) (fun k i => (k, i)) mkI (fun _ => 1) (fun _ => True) (markAll mkI (fun _ => 1) x k) (fun i y k hp h0 hb hy => ?_) (fun k2 => ?_) x [] k rfl hx.2 h0 hb
  · have hlen := get_lt hy
    have hlt := lt_t hlen
    rw [markAll_len] at hlen
    have hb' : k + ((1 : Nat) : Int) ≤ 4611686018427387904 := hb
    unfold f32_L1
    simp (disch := omega) only [hlt, cond_true, getI_nat, hy, Option.bind_some, mkI, bne_self_eq_false, beq_self_eq_true, Bool.not_true, cond_false, w64_up, ltz]
    rw [show k + (((fun _ => 1) y : Nat) : Int) = k + 1 from by show k + ((1 : Nat) : Int) = _; omega]
    rfl
  · unfold f32_L1
    simp only [lt_f, cond_false, Option.map_some]
theorem law3 (aAL0 : Layout) (aASection1 : Int) (haAL0 : fitLayout aAL0) (haASection1 : fitsI aASection1) : f3 aAL0 aASection1 = some true := by
  unfold f3
  obtain ⟨v0, e0, a0, b0⟩ := f24_sz (x := aAL0) (left := 1048576) (by omega) (by omega) haAL0
  rw [e0, Option.bind_some]
  rcases Bool.eq_false_or_eq_true (decide (v0 < (0 : Int))) with hb0 | hb0
  · rw [hb0]; rfl
  rw [hb0, cond_false]; simp only [decide_eq_false_iff_not] at hb0
  have saAL0 := b0.resolve_left hb0
  obtain ⟨r, m1, m2, m3⟩ := main3 haAL0 haASection1 saAL0
  have u0 := cs_Layout_le aAL0 saAL0
  have k0 := f30_mark (x := aAL0) (k := (1 : Int)) saAL0 (by omega) (by omega)
  have u1 := (fun _ hx => csum_bd (p := (fun _ => True)) (fun _ _ => Nat.le_refl 1) hx.1 hx.2) r m3
  have k1 := f31_mark (x := r) (k := (1 : Int)) m3 (by omega) (by omega)
  have j1 := f32_held (x := r) (k := (1 : Int)) m3 (by omega) (by omega)
  simp only [f26_to (x := aAL0) saAL0, f28_eq (x := r) m3, f29_eq (x := aAL0) saAL0, k0, ltz (show (0:Int) ≤ (1 : Int) + ((cs_Layout aAL0 : Nat) : Int) by omega), k1, ltz (show (0:Int) ≤ (1 : Int) + (((csum (fun _ => 1)) r : Nat) : Int) by omega), j1, Option.bind_some, m1, m2, bne_self_eq_false, beq_self_eq_true, Bool.not_true, cond_false]

end
end Go.Proofs.Ytkfekjcahepfnaa.K
