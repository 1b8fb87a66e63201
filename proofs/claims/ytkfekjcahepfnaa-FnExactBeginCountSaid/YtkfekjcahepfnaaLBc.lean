/-
  The plain part of the law FnExactBeginCount: on typed values it returns true at every input. No conditions.
-/
import Derived.Test.YtkfekjcahepfnaaDBc
set_option linter.unusedVariables false
set_option linter.unusedSimpArgs false
set_option maxRecDepth 100000
namespace Go.Proofs.Ytkfekjcahepfnaa.K
noncomputable section
open Go.ChangeShapes Go.WideShapes Go.ChangeAt Go.RowKit
abbrev fitCounter (x : Counter) : Prop := fitsI x.From ∧ fitsI x.To
abbrev fitLayout (x : Layout) : Prop := fitsI x.Sections ∧ (fitsL fitCounter) x.Counters
abbrev smLayout (x : Layout) : Prop := (smL (fun _ => True)) x.Counters
abbrev fitSection (x : Section) : Prop := fitsI x.Told ∧ fitsI x.Count ∧ (fun _ => True) x.Lost ∧ (fun _ => True) x.Sweep ∧ fitsI x.Last
abbrev fitCountState (x : CountState) : Prop := (fun _ => True) x.Ok ∧ (fitsL fitSection) x.Sections ∧ (fitsL (fun _ => True)) x.Dead
abbrev smCountState (x : CountState) : Prop := (smL (fun _ => True)) x.Sections ∧ (smL (fun _ => True)) x.Dead
theorem rd3 : Reads Try.prog 3 Int fitsI := reads_int Try.underlying3
theorem rd281 : Reads Try.prog 281 Counter fitCounter := by
  intro K enc W sp fuel cs d ps h
  obtain ⟨fu, hl, hf⟩ := trod_struct Try.underlying281 h
  have hl : cs.length = 2 := hl
  obtain ⟨_, _, h0⟩ := hf _ (List.Mem.head _)
  obtain ⟨x0, r0, g0⟩ := rd3 _ _ _ _ _ _ _ h0
  obtain ⟨_, _, h1⟩ := hf _ (List.Mem.tail _ (List.Mem.head _))
  obtain ⟨x1, r1, g1⟩ := rd3 _ _ _ _ _ _ _ h1
  exact ⟨⟨x0, x1⟩, fld (off := 0) (sz := 1) r0 (fldLast (sz := 1) hl r1), g0, g1⟩
theorem rd22 : Reads Try.prog 22 (List Counter) (fitsL fitCounter) := reads_slice Try.underlying22 rfl rd281
theorem rd24 : Reads Try.prog 24 Layout fitLayout := by
  intro K enc W sp fuel cs d ps h
  obtain ⟨fu, hl, hf⟩ := trod_struct Try.underlying24 h
  have hl : cs.length = 2 := hl
  obtain ⟨_, _, h0⟩ := hf _ (List.Mem.head _)
  obtain ⟨x0, r0, g0⟩ := rd3 _ _ _ _ _ _ _ h0
  obtain ⟨_, _, h1⟩ := hf _ (List.Mem.tail _ (List.Mem.head _))
  obtain ⟨x1, r1, g1⟩ := rd22 _ _ _ _ _ _ _ h1
  exact ⟨⟨x0, x1⟩, fld (off := 0) (sz := 1) r0 (fldLast (sz := 1) hl r1), g0, g1⟩
theorem f125_sz {x : List Counter} {left : Int} (h0 : 0 ≤ left) (h1 : left ≤ 1048576) (hx : (fitsL fitCounter) x) : ∃ v, f125 x left = some v ∧ v ≤ left ∧ (v < 0 ∨ (smL (fun _ => True)) x) := by
  unfold f125
  obtain ⟨v, e1, e2, e3⟩ := sz_flat (xs := x) h0 h1 hx.1
  exact ⟨v, e1, e2, e3.imp id fun h => ⟨h.1, fun _ _ => trivial⟩⟩
theorem f24_sz {x : Layout} {left : Int} (h0 : 0 ≤ left) (h1 : left ≤ 1048576) (hx : fitLayout x) : ∃ v, f24 x left = some v ∧ v ≤ left ∧ (v < 0 ∨ smLayout x) := by
  unfold f24
  obtain ⟨v0, e0, a0, b0⟩ := f125_sz (x := x.Counters) (left := left) (by omega) (by omega) hx.2
  rw [e0, Option.bind_some]
  rcases Bool.eq_false_or_eq_true (decide (v0 < (0 : Int))) with hb0 | hb0
  · rw [hb0]; exact ⟨_, rfl, by omega, .inl (by decide)⟩
  rw [hb0, cond_false]; simp only [decide_eq_false_iff_not] at hb0
  exact ⟨_, rfl, by omega, .inr (b0.resolve_left hb0)⟩
theorem f249_to {x : Counter} (hx : (fun _ => True) x) : f249 x = some x := by
  unfold f249
  rfl
theorem f128_to {x : List Counter} (hx : (smL (fun _ => True)) x) : f128 x = some x := by
  have hl := hx.1
  unfold f128
  rw [makeB_ok (by omega), Option.bind_some]
  have := fill x (fun y => y) (⟨0, 0⟩ : Counter) (F := f128_L1 x) (fun ys i y hi hy => ?_) (fun ys => ?_)
  · rw [List.map_id'] at this; exact this
  · have hlt := get_lt hi
    unfold f128_L1
    have hg := f249_to (x := y) (hx.2 _ (List.mem_of_getElem? hi))
    simp only [lt_t (get_lt hi), cond_true, getI_nat, hi, Option.bind_some, hg]
    rw [List.getElem?_eq_getElem (by omega), Option.bind_some, w64_nat (by omega)]
    rfl
  · unfold f128_L1
    simp only [lt_f, cond_false, Option.map_some]
theorem f26_to {x : Layout} (hx : smLayout x) : f26 x = some x := by
  unfold f26
  rw [f128_to (x := x.Counters) hx]
  rfl
theorem f251_eq {x : Counter} (hx : (fun _ => True) x) : f251 x x = some true := by
  unfold f251
  simp only [bne_self_eq_false, beq_self_eq_true, Bool.not_true, cond_false]
theorem f130_eq {x : List Counter} (hx : (smL (fun _ => True)) x) : f130 x x = some true := by
  unfold f130
  simp only [bne_self_eq_false, cond_false]
  refine eq_all (F := f130_L1 x x) hx.1 (fun i y hi => ?_) ?_
  · unfold f130_L1
    have hg := f251_eq (x := y) (hx.2 _ (List.mem_of_getElem? hi))
    simp only [lt_t (get_lt hi), cond_true, getI_nat, hi, Option.bind_some, hg, Bool.not_true, cond_false]
  · unfold f130_L1
    simp only [lt_f, cond_false, Option.map_some]
theorem f29_eq {x : Layout} (hx : smLayout x) : f29 x x = some true := by
  unfold f29
  simp only [bne_self_eq_false, beq_self_eq_true, Bool.not_true, cond_false, f130_eq (x := x.Counters) hx, Option.bind_some]
theorem f252_eq {x : Section} (hx : (fun _ => True) x) : f252 x x = some true := by
  unfold f252
  simp only [bne_self_eq_false, beq_self_eq_true, Bool.not_true, cond_false]
theorem f132_eq {x : List Section} (hx : (smL (fun _ => True)) x) : f132 x x = some true := by
  unfold f132
  simp only [bne_self_eq_false, cond_false]
  refine eq_all (F := f132_L1 x x) hx.1 (fun i y hi => ?_) ?_
  · unfold f132_L1
    have hg := f252_eq (x := y) (hx.2 _ (List.mem_of_getElem? hi))
    simp only [lt_t (get_lt hi), cond_true, getI_nat, hi, Option.bind_some, hg, Bool.not_true, cond_false]
  · unfold f132_L1
    simp only [lt_f, cond_false, Option.map_some]
theorem f133_eq {x : List Bool} (hx : (smL (fun _ => True)) x) : f133 x x = some true := by
  unfold f133
  simp only [bne_self_eq_false, cond_false]
  refine eq_all (F := f133_L1 x x) hx.1 (fun i y hi => ?_) ?_
  · unfold f133_L1
    simp only [lt_t (get_lt hi), cond_true, getI_nat, hi, Option.bind_some, bne_self_eq_false, beq_self_eq_true, Bool.not_true, cond_false]
  · unfold f133_L1
    simp only [lt_f, cond_false, Option.map_some]
theorem f35_eq {x : CountState} (hx : smCountState x) : f35 x x = some true := by
  unfold f35
  simp only [bne_self_eq_false, beq_self_eq_true, Bool.not_true, cond_false, f132_eq (x := x.Sections) hx.1, f133_eq (x := x.Dead) hx.2, Option.bind_some]
theorem layoutOk_eq {x : Layout} (hx : fitLayout x) (hs : smLayout x) : ∃ r, f126 x = some r ∧ f129 x = some r ∧ (r = 0 → 1 ≤ x.Sections ∧ x.Sections ≤ 60 ∧ x.Counters.length ≤ 120) := by
  have hl : x.Counters.length ≤ 1048576 := hs.1
  unfold f126 f129
  simp only [f127, Option.bind_some]
  have e1 : (!(decide (x.Sections ≥ 1) && decide (x.Sections ≤ 60)) || decide ((x.Counters.length : Int) > 120)) = ((decide (x.Sections < 1) || decide (x.Sections > 60)) || decide ((x.Counters.length : Int) > 120)) := by
    have a1 : decide (x.Sections < 1) = !decide (x.Sections ≥ 1) := by rw [← decide_not]; congr 1; apply propext; omega
    have a2 : decide (x.Sections > 60) = !decide (x.Sections ≤ 60) := by rw [← decide_not]; congr 1; apply propext; omega
    rw [a1, a2, Bool.not_and]
  rw [e1]
  rcases Bool.eq_false_or_eq_true ((decide (x.Sections < 1) || decide (x.Sections > 60)) || decide ((x.Counters.length : Int) > 120)) with hb | hb
  · rw [hb]
    exact ⟨1, rfl, rfl, fun h => by cases h⟩
  · rw [hb]
    simp only [Bool.or_eq_false_iff, decide_eq_false_iff_not] at hb
    have e2 : f126_L1 x = f129_L1 x := by
      funext s
      unfold f126_L1 f129_L1
      simp only [f127, f250, Option.bind_some]
      rw [w64_id ⟨by omega, by omega⟩]
      have e3 : ∀ y : Int, decide (y ≤ x.Sections - 1) = decide (y < x.Sections) := by intro y; congr 1; apply propext; omega
      simp only [e3]
    rw [e2]
    simp only [cond_false]
    have key : ∃ r, loopO (f129_L1 x) (0 : Int) = some r ∧ True := by
      refine loopO_ex (F := f129_L1 x) (fun _ => True) x.Counters.length (fun i => (i : Int)) (fun i hi => ?_) ?_
      · unfold f129_L1
        simp only [lt_t hi, cond_true, getI_ok hi, Option.bind_some, f250]
        rw [w64_nat (by omega)]
        generalize (decide (x.Counters[i].From ≥ -1) && decide (x.Counters[i].From < x.Sections)) = b1
        generalize (decide (x.Counters[i].To ≥ -1) && decide (x.Counters[i].To < x.Sections)) = b2
        cases b1 <;> cases b2 <;> cases (x.Counters[i].From == x.Counters[i].To) <;> simp
      · unfold f129_L1
        exact ⟨0, by simp only [lt_f, cond_false, Option.map_some], trivial⟩
    obtain ⟨r, h1, _⟩ := key
    exact ⟨r, h1, h1, fun _ => by omega⟩
theorem main4 {l : Layout} (hx : fitLayout l) (hs : smLayout l) : ∃ r, f33 l = some r ∧ f34 l = some r ∧ smCountState r := by
  obtain ⟨c, q1, q2, q3⟩ := layoutOk_eq hx hs
  unfold f33 f34
  simp only [q1, q2, Option.bind_some]
  by_cases hc : c = 0
  · obtain ⟨q4, q5, q6⟩ := q3 hc
    subst hc
    have e0 : l.Sections = ((l.Sections.toNat : Nat) : Int) := by omega
    simp only [bne_self_eq_false, cond_false]
    rw [e0, makeB_ok (by omega), makeB_ok (by omega)]
    simp only [Option.bind_some]
    exact ⟨_, rfl, rfl, ⟨by simp only [List.length_replicate]; omega, fun _ _ => trivial⟩, ⟨by simp only [List.length_replicate]; omega, fun _ _ => trivial⟩⟩
  · have e1 : (c != 0) = true := by simp [hc]
    simp only [e1, cond_true]
    exact ⟨_, rfl, rfl, ⟨by simp, fun _ _ => trivial⟩, ⟨by simp, fun _ _ => trivial⟩⟩

def mk_Counter (x : Counter) (k : Int) : Counter := { From := k, To := k + 1 }
def ck_Counter (x : Counter) : Nat := 1 + (1)
def ms_Layout (x : Layout) (k : Int) : Layout := { Sections := x.Sections, Counters := markAll mk_Counter ck_Counter x.Counters k }
def cs_Layout (x : Layout) : Nat := csum ck_Counter x.Counters
theorem f131_mark {x : List Counter} {k : Int} (hx : (smL (fun _ => True)) x) (h0 : 0 ≤ k) (hb : k + ((csum ck_Counter x : Nat) : Int) ≤ 4611686018427387904) : f131 x k = some (markAll mk_Counter ck_Counter x k, k + ((csum ck_Counter x : Nat) : Int)) := by
  have hl := hx.1
  unfold f131
  refine mark_loop (F := f131_L1) (fun xs k i => (xs, k, i)) mk_Counter ck_Counter (fun _ => True) x.length (fun pre y post k hp h0 hb hn => ?_) (fun ys k hn => ?_) x [] k hx.2 h0 hb rfl
  · have hlen := len_mid hn
    have hb' : k + ((1 + (1) : Nat) : Int) ≤ 4611686018427387904 := hb
    unfold f131_L1
    simp (disch := omega) only [lt_mid, cond_true, getI_mid, set_mid, Option.bind_some, w64_up]
    rw [show k + ((ck_Counter y : Nat) : Int) = k + 1 + 1 from by show k + ((1 + (1) : Nat) : Int) = _; omega]
    rfl
  · unfold f131_L1
    simp only [← hn, lt_f, cond_false, Option.map_some]
theorem f30_mark {x : Layout} {k : Int} (hx : smLayout x) (h0 : 0 ≤ k) (hb : k + ((cs_Layout x : Nat) : Int) ≤ 4611686018427387904) : f30 x k = some (ms_Layout x k, k + ((cs_Layout x : Nat) : Int)) := by
  unfold cs_Layout at hb
  unfold f30
  rw [f131_mark (x := x.Counters) (k := k) hx (by omega) (by omega), Option.bind_some]
  dsimp only
  rw [show k + ((cs_Layout x : Nat) : Int) = k + ((csum ck_Counter x.Counters : Nat) : Int) from by unfold cs_Layout; omega]
  rfl
theorem ck_Counter_le (x : Counter) (hx : (fun _ => True) x) : ck_Counter x ≤ 2 := by
  unfold ck_Counter
  omega
theorem cs_Layout_le (x : Layout) (hx : smLayout x) : cs_Layout x ≤ 2097152 := by
  unfold cs_Layout
  have h0 := (fun _ hx => csum_bd (p := (fun _ => True)) ck_Counter_le hx.1 hx.2) x.Counters hx
  omega
def mk_Section (x : Section) (k : Int) : Section := { Told := k, Count := k + 1, Lost := (Int.tmod (k + 1 + 1) 3 == 0), Sweep := (Int.tmod (k + 1 + 1 + 1) 3 == 0), Last := k + 1 + 1 + 1 + 1 }
def ck_Section (x : Section) : Nat := 1 + (1 + (1 + (1 + (1))))
def ms_CountState (x : CountState) (k : Int) : CountState := { Ok := x.Ok, Sections := markAll mk_Section ck_Section x.Sections k, Dead := markAll mkB (fun _ => 1) x.Dead (k + ((csum ck_Section x.Sections : Nat) : Int)) }
def cs_CountState (x : CountState) : Nat := csum ck_Section x.Sections + (csum (fun _ => 1) x.Dead)
theorem f134_mark {x : List Section} {k : Int} (hx : (smL (fun _ => True)) x) (h0 : 0 ≤ k) (hb : k + ((csum ck_Section x : Nat) : Int) ≤ 4611686018427387904) : f134 x k = some (markAll mk_Section ck_Section x k, k + ((csum ck_Section x : Nat) : Int)) := by
  have hl := hx.1
  unfold f134
  refine mark_loop (F := f134_L1) (fun xs k i => (xs, k, i)) mk_Section ck_Section (fun _ => True) x.length (fun pre y post k hp h0 hb hn => ?_) (fun ys k hn => ?_) x [] k hx.2 h0 hb rfl
  · have hlen := len_mid hn
    have hb' : k + ((1 + (1 + (1 + (1 + (1)))) : Nat) : Int) ≤ 4611686018427387904 := hb
    unfold f134_L1
    simp (disch := omega) only [lt_mid, cond_true, getI_mid, set_mid, Option.bind_some, w64_up]
    rw [show k + ((ck_Section y : Nat) : Int) = k + 1 + 1 + 1 + 1 + 1 from by show k + ((1 + (1 + (1 + (1 + (1)))) : Nat) : Int) = _; omega]
    rfl
  · unfold f134_L1
    simp only [← hn, lt_f, cond_false, Option.map_some]
theorem f135_mark {x : List Bool} {k : Int} (hx : (smL (fun _ => True)) x) (h0 : 0 ≤ k) (hb : k + ((csum (fun _ => 1) x : Nat) : Int) ≤ 4611686018427387904) : f135 x k = some (markAll mkB (fun _ => 1) x k, k + ((csum (fun _ => 1) x : Nat) : Int)) := by
  have hl := hx.1
  unfold f135
  refine mark_loop (F := f135_L1) (fun xs k i => (xs, k, i)) mkB (fun _ => 1) (fun _ => True) x.length (fun pre y post k hp h0 hb hn => ?_) (fun ys k hn => ?_) x [] k hx.2 h0 hb rfl
  · have hlen := len_mid hn
    have hb' : k + ((1 : Nat) : Int) ≤ 4611686018427387904 := hb
    unfold f135_L1
    simp (disch := omega) only [lt_mid, cond_true, getI_mid, set_mid, Option.bind_some, w64_up]
    rw [show k + (((fun _ => 1) y : Nat) : Int) = k + 1 from by show k + ((1 : Nat) : Int) = _; omega]
    rfl
  · unfold f135_L1
    simp only [← hn, lt_f, cond_false, Option.map_some]
theorem f36_mark {x : CountState} {k : Int} (hx : smCountState x) (h0 : 0 ≤ k) (hb : k + ((cs_CountState x : Nat) : Int) ≤ 4611686018427387904) : f36 x k = some (ms_CountState x k, k + ((cs_CountState x : Nat) : Int)) := by
  unfold cs_CountState at hb
  unfold f36
  rw [f134_mark (x := x.Sections) (k := k) hx.1 (by omega) (by omega), Option.bind_some]
  dsimp only
  rw [f135_mark (x := x.Dead) (k := k + ((csum ck_Section x.Sections : Nat) : Int)) hx.2 (by omega) (by omega), Option.bind_some]
  dsimp only
  rw [show k + ((cs_CountState x : Nat) : Int) = k + ((csum ck_Section x.Sections : Nat) : Int) + ((csum (fun _ => 1) x.Dead : Nat) : Int) from by unfold cs_CountState; omega]
  rfl
theorem ck_Section_le (x : Section) (hx : (fun _ => True) x) : ck_Section x ≤ 5 := by
  unfold ck_Section
  omega
theorem cs_CountState_le (x : CountState) (hx : smCountState x) : cs_CountState x ≤ 6291456 := by
  unfold cs_CountState
  have h0 := (fun _ hx => csum_bd (p := (fun _ => True)) ck_Section_le hx.1 hx.2) x.Sections hx.1
  have h1 := (fun _ hx => csum_bd (p := (fun _ => True)) (fun _ _ => Nat.le_refl 1) hx.1 hx.2) x.Dead hx.2
  omega
theorem f136_held {x : List Section} {k : Int} (hx : (smL (fun _ => True)) x) (h0 : 0 ≤ k) (hb : k + ((csum ck_Section x : Nat) : Int) ≤ 4611686018427387904) : f136 (markAll mk_Section ck_Section x k) k = some (k + ((csum ck_Section x : Nat) : Int)) := by
  have hl := hx.1
  unfold f136
  refine held_loop (F := f136_L1 (markAll mk_Section ck_Section x k)) (fun k i => (k, i)) mk_Section ck_Section (fun _ => True) (markAll mk_Section ck_Section x k) (fun i y k hp h0 hb hy => ?_) (fun k2 => ?_) x [] k rfl hx.2 h0 hb
  · have hlen := get_lt hy
    have hlt := lt_t hlen
    rw [markAll_len] at hlen
    have hb' : k + ((1 + (1 + (1 + (1 + (1)))) : Nat) : Int) ≤ 4611686018427387904 := hb
    unfold f136_L1
    simp (disch := omega) only [hlt, cond_true, getI_nat, hy, Option.bind_some, mk_Section, bne_self_eq_false, beq_self_eq_true, Bool.not_true, cond_false, w64_up, ltz]
    rw [show k + ((ck_Section y : Nat) : Int) = k + 1 + 1 + 1 + 1 + 1 from by show k + ((1 + (1 + (1 + (1 + (1)))) : Nat) : Int) = _; omega]
    rfl
  · unfold f136_L1
    simp only [lt_f, cond_false, Option.map_some]
theorem f137_held {x : List Bool} {k : Int} (hx : (smL (fun _ => True)) x) (h0 : 0 ≤ k) (hb : k + ((csum (fun _ => 1) x : Nat) : Int) ≤ 4611686018427387904) : f137 (markAll mkB (fun _ => 1) x k) k = some (k + ((csum (fun _ => 1) x : Nat) : Int)) := by
  have hl := hx.1
  unfold f137
  refine held_loop (F := f137_L1 (markAll mkB (fun _ => 1) x k)) (fun k i => (k, i)) mkB (fun _ => 1) (fun _ => True) (markAll mkB (fun _ => 1) x k) (fun i y k hp h0 hb hy => ?_) (fun k2 => ?_) x [] k rfl hx.2 h0 hb
  · have hlen := get_lt hy
    have hlt := lt_t hlen
    rw [markAll_len] at hlen
    have hb' : k + ((1 : Nat) : Int) ≤ 4611686018427387904 := hb
    unfold f137_L1
    simp (disch := omega) only [hlt, cond_true, getI_nat, hy, Option.bind_some, mkB, bne_self_eq_false, beq_self_eq_true, Bool.not_true, cond_false, w64_up, ltz]
    rw [show k + (((fun _ => 1) y : Nat) : Int) = k + 1 from by show k + ((1 : Nat) : Int) = _; omega]
    rfl
  · unfold f137_L1
    simp only [lt_f, cond_false, Option.map_some]
theorem f37_held {x : CountState} {k : Int} (hx : smCountState x) (h0 : 0 ≤ k) (hb : k + ((cs_CountState x : Nat) : Int) ≤ 4611686018427387904) : f37 (ms_CountState x k) k = some (k + ((cs_CountState x : Nat) : Int)) := by
  unfold cs_CountState at hb
  unfold f37 ms_CountState
  dsimp only
  rw [f136_held (x := x.Sections) (k := k) hx.1 (by omega) (by omega), Option.bind_some, ltz (by omega), cond_false]
  rw [f137_held (x := x.Dead) (k := k + ((csum ck_Section x.Sections : Nat) : Int)) hx.2 (by omega) (by omega), Option.bind_some, ltz (by omega), cond_false]
  rw [show k + ((cs_CountState x : Nat) : Int) = k + ((csum ck_Section x.Sections : Nat) : Int) + ((csum (fun _ => 1) x.Dead : Nat) : Int) from by unfold cs_CountState; omega]
theorem law4 (aAL0 : Layout) (haAL0 : fitLayout aAL0) : f4 aAL0 = some true := by
  unfold f4
  obtain ⟨v0, e0, a0, b0⟩ := f24_sz (x := aAL0) (left := 1048576) (by omega) (by omega) haAL0
  rw [e0, Option.bind_some]
  rcases Bool.eq_false_or_eq_true (decide (v0 < (0 : Int))) with hb0 | hb0
  · rw [hb0]; rfl
  rw [hb0, cond_false]; simp only [decide_eq_false_iff_not] at hb0
  have saAL0 := b0.resolve_left hb0
  obtain ⟨r, m1, m2, m3⟩ := main4 haAL0 saAL0
  have u0 := cs_Layout_le aAL0 saAL0
  have k0 := f30_mark (x := aAL0) (k := (1 : Int)) saAL0 (by omega) (by omega)
  have u1 := cs_CountState_le r m3
  have k1 := f36_mark (x := r) (k := (1 : Int)) m3 (by omega) (by omega)
  have j1 := f37_held (x := r) (k := (1 : Int)) m3 (by omega) (by omega)
  simp only [f26_to (x := aAL0) saAL0, f29_eq (x := aAL0) saAL0, f35_eq (x := r) m3, k0, ltz (show (0:Int) ≤ (1 : Int) + ((cs_Layout aAL0 : Nat) : Int) by omega), k1, ltz (show (0:Int) ≤ (1 : Int) + ((cs_CountState r : Nat) : Int) by omega), j1, Option.bind_some, m1, m2, bne_self_eq_false, beq_self_eq_true, Bool.not_true, cond_false]

end
end Go.Proofs.Ytkfekjcahepfnaa.K
