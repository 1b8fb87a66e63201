/-
  The plain part of the law FnExactWants: on typed values it returns true at every input. No conditions.
-/
import Derived.Test.YtkfekjcahepfnaaDWa
set_option linter.unusedVariables false
set_option linter.unusedSimpArgs false
set_option maxRecDepth 100000
namespace Go.Proofs.Ytkfekjcahepfnaa.K
noncomputable section
open Go.ChangeShapes Go.WideShapes Go.ChangeAt Go.RowKit
abbrev fitRow (x : Row) : Prop := (fitsL fitsI) x.Next ∧ (fitsL fitsI) x.Far ∧ (fitsL (fun _ => True)) x.Open ∧ (fitsL (fitsL (fun _ => True))) x.Works
abbrev smRow (x : Row) : Prop := (smL (fun _ => True)) x.Next ∧ (smL (fun _ => True)) x.Far ∧ (smL (fun _ => True)) x.Open ∧ (smL (smL (fun _ => True))) x.Works
theorem rd3 : Reads Try.prog 3 Int fitsI := reads_int Try.underlying3
theorem rd26 : Reads Try.prog 26 (List Int) (fitsL fitsI) := reads_slice Try.underlying26 rfl rd3
theorem rd4 : Reads Try.prog 4 Bool (fun _ => True) := reads_bool Try.underlying4
theorem rd38 : Reads Try.prog 38 (List Bool) (fitsL (fun _ => True)) := reads_slice Try.underlying38 rfl rd4
theorem rd45 : Reads Try.prog 45 (List (List Bool)) (fitsL (fitsL (fun _ => True))) := reads_slice Try.underlying45 rfl rd38
theorem rd47 : Reads Try.prog 47 Row fitRow := by
  intro K enc W sp fuel cs d ps h
  obtain ⟨fu, hl, hf⟩ := trod_struct Try.underlying47 h
  have hl : cs.length = 4 := hl
  obtain ⟨_, _, h0⟩ := hf _ (List.Mem.head _)
  obtain ⟨x0, r0, g0⟩ := rd26 _ _ _ _ _ _ _ h0
  obtain ⟨_, _, h1⟩ := hf _ (List.Mem.tail _ (List.Mem.head _))
  obtain ⟨x1, r1, g1⟩ := rd26 _ _ _ _ _ _ _ h1
  obtain ⟨_, _, h2⟩ := hf _ (List.Mem.tail _ (List.Mem.tail _ (List.Mem.head _)))
  obtain ⟨x2, r2, g2⟩ := rd38 _ _ _ _ _ _ _ h2
  obtain ⟨_, _, h3⟩ := hf _ (List.Mem.tail _ (List.Mem.tail _ (List.Mem.tail _ (List.Mem.head _))))
  obtain ⟨x3, r3, g3⟩ := rd45 _ _ _ _ _ _ _ h3
  exact ⟨⟨x0, x1, x2, x3⟩, fld (off := 0) (sz := 1) r0 (fld (off := 1) (sz := 1) r1 (fld (off := 2) (sz := 1) r2 (fldLast (sz := 1) hl r3))), g0, g1, g2, g3⟩
theorem f138_sz {x : List Int} {left : Int} (h0 : 0 ≤ left) (h1 : left ≤ 1048576) (hx : (fitsL fitsI) x) : ∃ v, f138 x left = some v ∧ v ≤ left ∧ (v < 0 ∨ (smL (fun _ => True)) x) := by
  unfold f138
  obtain ⟨v, e1, e2, e3⟩ := sz_flat (xs := x) h0 h1 hx.1
  exact ⟨v, e1, e2, e3.imp id fun h => ⟨h.1, fun _ _ => trivial⟩⟩
theorem f139_sz {x : List Bool} {left : Int} (h0 : 0 ≤ left) (h1 : left ≤ 1048576) (hx : (fitsL (fun _ => True)) x) : ∃ v, f139 x left = some v ∧ v ≤ left ∧ (v < 0 ∨ (smL (fun _ => True)) x) := by
  unfold f139
  obtain ⟨v, e1, e2, e3⟩ := sz_flat (xs := x) h0 h1 hx.1
  exact ⟨v, e1, e2, e3.imp id fun h => ⟨h.1, fun _ _ => trivial⟩⟩
theorem f140_sz {x : List (List Bool)} {left : Int} (h0 : 0 ≤ left) (h1 : left ≤ 1048576) (hx : (fitsL (fitsL (fun _ => True))) x) : ∃ v, f140 x left = some v ∧ v ≤ left ∧ (v < 0 ∨ (smL (smL (fun _ => True))) x) := by
  unfold f140
  refine sz_deep (g := f139) (fit := (fitsL (fun _ => True))) (sm := (smL (fun _ => True))) (fun x l a b c => f139_sz b c a) (fun l i x hi => ?_) (fun l => ?_) h0 h1 hx
  · unfold f140_L1
    simp only [lt_t (get_lt hi), cond_true, getI_nat, hi, Option.bind_some, Option.map_some]
  · unfold f140_L1
    simp only [lt_f, cond_false, Option.map_some]
theorem f38_sz {x : Row} {left : Int} (h0 : 0 ≤ left) (h1 : left ≤ 1048576) (hx : fitRow x) : ∃ v, f38 x left = some v ∧ v ≤ left ∧ (v < 0 ∨ smRow x) := by
  unfold f38
  obtain ⟨v0, e0, a0, b0⟩ := f138_sz (x := x.Next) (left := left) (by omega) (by omega) hx.1
  rw [e0, Option.bind_some]
  rcases Bool.eq_false_or_eq_true (decide (v0 < (0 : Int))) with hb0 | hb0
  · rw [hb0]; exact ⟨_, rfl, by omega, .inl (by decide)⟩
  rw [hb0, cond_false]; simp only [decide_eq_false_iff_not] at hb0
  obtain ⟨v1, e1, a1, b1⟩ := f138_sz (x := x.Far) (left := v0) (by omega) (by omega) hx.2.1
  rw [e1, Option.bind_some]
  rcases Bool.eq_false_or_eq_true (decide (v1 < (0 : Int))) with hb1 | hb1
  · rw [hb1]; exact ⟨_, rfl, by omega, .inl (by decide)⟩
  rw [hb1, cond_false]; simp only [decide_eq_false_iff_not] at hb1
  obtain ⟨v2, e2, a2, b2⟩ := f139_sz (x := x.Open) (left := v1) (by omega) (by omega) hx.2.2.1
  rw [e2, Option.bind_some]
  rcases Bool.eq_false_or_eq_true (decide (v2 < (0 : Int))) with hb2 | hb2
  · rw [hb2]; exact ⟨_, rfl, by omega, .inl (by decide)⟩
  rw [hb2, cond_false]; simp only [decide_eq_false_iff_not] at hb2
  obtain ⟨v3, e3, a3, b3⟩ := f140_sz (x := x.Works) (left := v2) (by omega) (by omega) hx.2.2.2
  rw [e3, Option.bind_some]
  rcases Bool.eq_false_or_eq_true (decide (v3 < (0 : Int))) with hb3 | hb3
  · rw [hb3]; exact ⟨_, rfl, by omega, .inl (by decide)⟩
  rw [hb3, cond_false]; simp only [decide_eq_false_iff_not] at hb3
  exact ⟨_, rfl, by omega, .inr ⟨b0.resolve_left hb0, b1.resolve_left hb1, b2.resolve_left hb2, b3.resolve_left hb3⟩⟩
theorem f97_to {x : List Int} (hx : (smL (fun _ => True)) x) : f97 x = some x := by
  have hl := hx.1
  unfold f97
  rw [makeB_ok (by omega), Option.bind_some]
  have := fill x (fun y => y) (0 : Int) (F := f97_L1 x) (fun ys i y hi hy => ?_) (fun ys => ?_)
  · rw [List.map_id'] at this; exact this
  · have hlt := get_lt hi
    unfold f97_L1
    simp only [lt_t (get_lt hi), cond_true, getI_nat, hi, Option.bind_some]
    rw [List.getElem?_eq_getElem (by omega), Option.bind_some, w64_nat (by omega)]
    rfl
  · unfold f97_L1
    simp only [lt_f, cond_false, Option.map_some]
theorem f143_to {x : List Bool} (hx : (smL (fun _ => True)) x) : f143 x = some x := by
  have hl := hx.1
  unfold f143
  rw [makeB_ok (by omega), Option.bind_some]
  have := fill x (fun y => y) (false : Bool) (F := f143_L1 x) (fun ys i y hi hy => ?_) (fun ys => ?_)
  · rw [List.map_id'] at this; exact this
  · have hlt := get_lt hi
    unfold f143_L1
    simp only [lt_t (get_lt hi), cond_true, getI_nat, hi, Option.bind_some]
    rw [List.getElem?_eq_getElem (by omega), Option.bind_some, w64_nat (by omega)]
    rfl
  · unfold f143_L1
    simp only [lt_f, cond_false, Option.map_some]
theorem f144_to {x : List (List Bool)} (hx : (smL (smL (fun _ => True))) x) : f144 x = some x := by
  have hl := hx.1
  unfold f144
  rw [makeB_ok (by omega), Option.bind_some]
  have := fill x (fun y => y) ([] : List Bool) (F := f144_L1 x) (fun ys i y hi hy => ?_) (fun ys => ?_)
  · rw [List.map_id'] at this; exact this
  · have hlt := get_lt hi
    unfold f144_L1
    have hg := f143_to (x := y) (hx.2 _ (List.mem_of_getElem? hi))
    simp only [lt_t (get_lt hi), cond_true, getI_nat, hi, Option.bind_some, hg]
    rw [List.getElem?_eq_getElem (by omega), Option.bind_some, w64_nat (by omega)]
    rfl
  · unfold f144_L1
    simp only [lt_f, cond_false, Option.map_some]
theorem f40_to {x : Row} (hx : smRow x) : f40 x = some x := by
  unfold f40
  rw [f97_to (x := x.Next) hx.1, f97_to (x := x.Far) hx.2.1, f143_to (x := x.Open) hx.2.2.1, f144_to (x := x.Works) hx.2.2.2]
  rfl
theorem f28_eq {x : List Int} (hx : (smL (fun _ => True)) x) : f28 x x = some true := by
  unfold f28
  simp only [bne_self_eq_false, cond_false]
  refine eq_all (F := f28_L1 x x) hx.1 (fun i y hi => ?_) ?_
  · unfold f28_L1
    simp only [lt_t (get_lt hi), cond_true, getI_nat, hi, Option.bind_some, bne_self_eq_false, beq_self_eq_true, Bool.not_true, cond_false]
  · unfold f28_L1
    simp only [lt_f, cond_false, Option.map_some]
theorem f133_eq {x : List Bool} (hx : (smL (fun _ => True)) x) : f133 x x = some true := by
  unfold f133
  simp only [bne_self_eq_false, cond_false]
  refine eq_all (F := f133_L1 x x) hx.1 (fun i y hi => ?_) ?_
  · unfold f133_L1
    simp only [lt_t (get_lt hi), cond_true, getI_nat, hi, Option.bind_some, bne_self_eq_false, beq_self_eq_true, Bool.not_true, cond_false]
  · unfold f133_L1
    simp only [lt_f, cond_false, Option.map_some]
theorem f148_eq {x : List (List Bool)} (hx : (smL (smL (fun _ => True))) x) : f148 x x = some true := by
  unfold f148
  simp only [bne_self_eq_false, cond_false]
  refine eq_all (F := f148_L1 x x) hx.1 (fun i y hi => ?_) ?_
  · unfold f148_L1
    have hg := f133_eq (x := y) (hx.2 _ (List.mem_of_getElem? hi))
    simp only [lt_t (get_lt hi), cond_true, getI_nat, hi, Option.bind_some, hg, Bool.not_true, cond_false]
  · unfold f148_L1
    simp only [lt_f, cond_false, Option.map_some]
theorem f42_eq {x : Row} (hx : smRow x) : f42 x x = some true := by
  unfold f42
  simp only [bne_self_eq_false, beq_self_eq_true, Bool.not_true, cond_false, f28_eq (x := x.Next) hx.1, f28_eq (x := x.Far) hx.2.1, f133_eq (x := x.Open) hx.2.2.1, f148_eq (x := x.Works) hx.2.2.2, Option.bind_some]
theorem rowOk_eq {x : Row} (hx : fitRow x) (hs : smRow x) : ∃ r, f141 x = some r ∧ f145 x = some r := by
  unfold f141 f145
  rcases Bool.eq_false_or_eq_true (((decide ((x.Next.length : Int) > (60 : Int)) || ((x.Far.length : Int) != (x.Next.length : Int))) || ((x.Open.length : Int) != (x.Next.length : Int))) || ((x.Works.length : Int) != (x.Next.length : Int))) with hb | hb
  · rw [hb]; exact ⟨_, rfl, rfl⟩
  rw [hb]
  simp only [Bool.or_eq_false_iff, decide_eq_false_iff_not, bne_eq_false_iff_eq] at hb
  obtain ⟨⟨⟨hb1, hb2⟩, hb3⟩, hb4⟩ := hb
  have e2 : f141_L2 x = f145_L2 x := rfl
  have e1 : f141_L1 x = f145_L1 x := by
    funext s
    unfold f141_L1 f145_L1
    simp only [f253, f171, e2]
  rw [e1]
  simp only [cond_false]
  have k2 : ∃ r, loopO (f145_L2 x) (0 : Int) = some r ∧ True := by
    refine loopO_ex (F := f145_L2 x) (fun _ => True) x.Works.length (fun i => (i : Int)) (fun i hi => ?_) ?_
    · unfold f145_L2
      simp only [lt_t hi, cond_true, getI_ok hi, Option.bind_some]
      rw [w64_nat (by omega)]
      cases ((x.Works[i].length : Int) != (4 : Int)) <;> simp
    · unfold f145_L2
      exact ⟨0, by simp only [lt_f, cond_false, Option.map_some], trivial⟩
  obtain ⟨r2, k2, _⟩ := k2
  have k1 : ∃ r, loopO (f145_L1 x) (0 : Int) = some r ∧ True := by
    refine loopO_ex (F := f145_L1 x) (fun _ => True) x.Next.length (fun i => (i : Int)) (fun i hi => ?_) ?_
    · unfold f145_L1
      have hi2 : i < x.Far.length := by omega
      simp only [lt_t hi, cond_true, getI_ok hi, getI_ok hi2, Option.bind_some, f171]
      rw [w64_nat (by omega)]
      generalize (decide (x.Next[i] ≥ -1) && decide (x.Next[i] ≤ w64 ((x.Next.length : Int) - 1))) = b1
      generalize (decide (x.Far[i] ≥ 0) && decide (x.Far[i] ≤ 1000000)) = b2
      cases b1 <;> cases b2 <;> simp
    · unfold f145_L1
      exact ⟨r2, by simp only [lt_f, cond_false, k2, Option.map_some], trivial⟩
  obtain ⟨r1, k1, _⟩ := k1
  exact ⟨r1, k1, k1⟩
/-! ### Vectors of numbers, as functions -/
def vecL (n : Nat) (W : Nat → Int) : List Int := (List.range n).map W
theorem vecL_len (n : Nat) (W : Nat → Int) : (vecL n W).length = n := by unfold vecL; rw [List.length_map, List.length_range]
theorem vecL_get {n i : Nat} (W : Nat → Int) (hi : i < n) : (vecL n W)[i]? = some (W i) := by
  unfold vecL
  rw [List.getElem?_map, List.getElem?_range hi]; rfl
theorem vecL_succ (n : Nat) (W : Nat → Int) : vecL n W ++ [W n] = vecL (n + 1) W := by
  unfold vecL
  rw [List.range_succ, List.map_append]; rfl
theorem vecL_congr {n : Nat} {W V : Nat → Int} (h : ∀ j, j < n → W j = V j) : vecL n W = vecL n V := by
  unfold vecL
  exact List.map_congr_left fun j hj => h j (List.mem_range.1 hj)
theorem vecL_zero (n : Nat) : vecL n (fun _ => 0) = List.replicate n (0 : Int) := by
  apply List.ext_getElem?
  intro i
  rcases Nat.lt_or_ge i n with h | h
  · rw [vecL_get _ h, List.getElem?_replicate, if_pos h]
  · rw [List.getElem?_eq_none (by rw [vecL_len]; exact h), List.getElem?_eq_none (by rw [List.length_replicate]; exact h)]
/-- The first i numbers are new. -/
def mixF (i : Nat) (V W : Nat → Int) : Nat → Int := fun j => if j < i then V j else W j
theorem mix_zero (n : Nat) (V W : Nat → Int) : vecL n (mixF 0 V W) = vecL n W := vecL_congr fun j _ => by unfold mixF; rw [if_neg (Nat.not_lt_zero j)]
theorem mix_all (n : Nat) (V W : Nat → Int) : vecL n (mixF n V W) = vecL n V := vecL_congr fun j hj => by unfold mixF; rw [if_pos hj]
theorem mix_set {n i : Nat} (V W : Nat → Int) (hi : i < n) : (vecL n (mixF i V W)).set i (V i) = vecL n (mixF (i + 1) V W) := by
  apply List.ext_getElem?
  intro j
  rw [List.getElem?_set, vecL_len]
  rcases Nat.lt_or_ge j n with h | h
  · rw [vecL_get _ h, vecL_get _ h]
    by_cases e : i = j
    · subst e
      rw [if_pos rfl, if_pos hi]
      unfold mixF
      rw [if_pos (Nat.lt_succ_self i)]
    · rw [if_neg e]
      unfold mixF
      by_cases hj : j < i
      · rw [if_pos hj, if_pos (by omega)]
      · rw [if_neg hj, if_neg (by omega)]
  · rw [if_neg (by omega), List.getElem?_eq_none (by rw [vecL_len]; exact h), List.getElem?_eq_none (by rw [vecL_len]; exact h)]
def sumT : Nat → (Nat → Int) → Int
  | 0, _ => 0
  | n + 1, W => sumT n W + W n
theorem sumT_le {V W : Nat → Int} : ∀ n, (∀ j, j < n → V j ≤ W j) → sumT n V ≤ sumT n W
  | 0, _ => Int.le_refl _
  | n + 1, h => by
    have h1 := sumT_le n fun j hj => h j (by omega)
    have h2 := h n (by omega)
    simp only [sumT]; omega
theorem sumT_lt {V W : Nat → Int} : ∀ n, (∀ j, j < n → V j ≤ W j) → (∃ j, j < n ∧ V j ≠ W j) → sumT n V < sumT n W
  | 0, _, h => by obtain ⟨j, h1, _⟩ := h; omega
  | n + 1, h, hx => by
    have h1 := sumT_le n fun j hj => h j (by omega)
    have h2 := h n (by omega)
    obtain ⟨j, hj, hne⟩ := hx
    simp only [sumT]
    rcases Nat.lt_or_ge j n with hlt | hge
    · have := sumT_lt n (fun j hj => h j (by omega)) ⟨j, hlt, hne⟩
      omega
    · have : j = n := by omega
      subst this
      omega
theorem sumT_bd {W : Nat → Int} {m : Int} : ∀ n, (∀ j, j < n → W j ≤ m) → sumT n W ≤ n * m
  | 0, _ => by simp [sumT]
  | n + 1, h => by
    have h1 := sumT_bd n fun j hj => h j (by omega)
    have h2 := h n (by omega)
    simp only [sumT]
    rw [Int.natCast_add, Int.add_mul]; omega
/-- A rising sequence of vectors, bounded, stands still somewhere; the first such place. -/
theorem stands (n : Nat) (m : Nat) (W : Nat → Nat → Int) (h0 : ∀ j, j < n → 0 ≤ W 0 j) (hup : ∀ k j, j < n → W k j ≤ W (k + 1) j) (hb : ∀ k j, j < n → W k j ≤ m) : ∃ K, (∀ j, j < n → W (K + 1) j = W K j) ∧ ∀ k, k < K → ∃ j, j < n ∧ W (k + 1) j ≠ W k j := by
  have hex : ∃ K, ∀ j, j < n → W (K + 1) j = W K j := by
    apply Classical.byContradiction
    intro hne
    have hd : ∀ k, ∃ j, j < n ∧ W k j ≠ W (k + 1) j := fun k => by
      apply Classical.byContradiction
      intro hn
      exact hne ⟨k, fun j hj => Classical.byContradiction fun e => hn ⟨j, hj, fun q => e q.symm⟩⟩
    have hs : ∀ k : Nat, (k : Int) ≤ sumT n (W k) := by
      intro k
      induction k with
      | zero =>
        have := sumT_le (V := fun _ => 0) (W := W 0) n h0
        have h1 : ∀ n, sumT n (fun _ => 0) = 0 := fun n => by induction n with
          | zero => rfl
          | succ n ih => simp [sumT, ih]
        rw [h1] at this
        exact this
      | succ k ih =>
        have := sumT_lt n (hup k) (hd k)
        omega
    have h1 := hs (n * m + 1)
    have h2 := sumT_bd (m := (m : Int)) n (hb (n * m + 1))
    have h3 : ((n * m : Nat) : Int) = (n : Int) * (m : Int) := Int.natCast_mul n m
    omega
  obtain ⟨K, hK⟩ := hex
  have key : ∀ K, (∀ j, j < n → W (K + 1) j = W K j) → ∃ K, (∀ j, j < n → W (K + 1) j = W K j) ∧ ∀ k, k < K → ∃ j, j < n ∧ W (k + 1) j ≠ W k j := by
    intro K
    induction K using Nat.strongRecOn with
    | ind K ih =>
      intro hK
      rcases Classical.em (∃ k, k < K ∧ ∀ j, j < n → W (k + 1) j = W k j) with ⟨k, hk, hx⟩ | hno
      · exact ih k hk hx
      · refine ⟨K, hK, fun k hk => Classical.byContradiction fun hn => hno ⟨k, hk, fun j hj => Classical.byContradiction fun e => hn ⟨j, hj, e⟩⟩⟩
  exact key K hK
/-- The highest lamp that works, up to one; -1: none. -/
def lampN (w : List Bool) : Nat → Int
  | 0 => -1
  | k + 1 => if w.getD k false = true then (k : Int) else lampN w k
theorem lampN_lt (w : List Bool) : ∀ k, -1 ≤ lampN w k ∧ lampN w k < k
  | 0 => by simp [lampN]
  | k + 1 => by
    have := lampN_lt w k
    simp only [lampN]
    split <;> omega
theorem lampN_up (w : List Bool) : ∀ {a b : Nat}, a ≤ b → lampN w a ≤ lampN w b := by
  intro a b h
  induction b with
  | zero => have : a = 0 := by omega
            subst this; exact Int.le_refl _
  | succ b ih =>
    rcases Nat.lt_or_ge a (b + 1) with hlt | hge
    · refine Int.le_trans (ih (by omega)) ?_
      have := lampN_lt w b
      simp only [lampN]
      split <;> omega
    · have : a = b + 1 := by omega
      subst this; exact Int.le_refl _
def lampV (w : List Bool) (a : Int) : Int := lampN w (a + 1).toNat
theorem lampV_in (w : List Bool) {a : Int} (h0 : -1 ≤ a) (h3 : a ≤ 3) : -1 ≤ lampV w a ∧ lampV w a ≤ 3 := by
  have := lampN_lt w (a + 1).toNat
  unfold lampV; omega
theorem lampV_up (w : List Bool) {a b : Int} (h : a ≤ b) : lampV w a ≤ lampV w b := lampN_up w (by omega)
/-! ### What signals want, round after round -/
def worksF (r : Row) (i : Nat) : List Bool := (r.Works[i]?).getD []
def lampsF (r : Row) (W : Nat → Int) (i : Nat) : Int := lampV (worksF r i) (W i)
def wantF (r : Row) (S : Nat → Int) (i : Nat) : Int := bif !((r.Open[i]?).getD false) then 0 else bif decide ((r.Next[i]?).getD 0 < 0) then 1 else (if S ((r.Next[i]?).getD 0).toNat + 1 < 3 then S ((r.Next[i]?).getD 0).toNat + 1 else 3)
def stepW (r : Row) (W : Nat → Int) : Nat → Int := wantF r (lampsF r W)
def seqW (r : Row) : Nat → Nat → Int
  | 0 => fun _ => 0
  | k + 1 => stepW r (seqW r k)
theorem wantF_in (r : Row) {S : Nat → Int} (h : ∀ i, -1 ≤ S i) (i : Nat) : 0 ≤ wantF r S i ∧ wantF r S i ≤ 3 := by
  unfold wantF
  have := h ((r.Next[i]?).getD 0).toNat
  cases !((r.Open[i]?).getD false) with
  | true => simp
  | false =>
    cases decide ((r.Next[i]?).getD 0 < 0) with
    | true => simp
    | false =>
      simp only [cond_false]
      split <;> omega
theorem wantF_up (r : Row) {S S' : Nat → Int} (h : ∀ i, S i ≤ S' i) (i : Nat) : wantF r S i ≤ wantF r S' i := by
  unfold wantF
  have := h ((r.Next[i]?).getD 0).toNat
  cases !((r.Open[i]?).getD false) with
  | true => exact Int.le_refl _
  | false =>
    cases decide ((r.Next[i]?).getD 0 < 0) with
    | true => exact Int.le_refl _
    | false =>
      simp only [cond_false]
      split <;> split <;> omega
theorem seqW_in (r : Row) : ∀ k i, 0 ≤ seqW r k i ∧ seqW r k i ≤ 3
  | 0, i => by simp [seqW]
  | k + 1, i => wantF_in r (fun j => (lampV_in _ (by have := seqW_in r k j; omega) (seqW_in r k j).2).1) i
theorem seqW_up (r : Row) : ∀ k i, seqW r k i ≤ seqW r (k + 1) i
  | 0, i => (seqW_in r 1 i).1
  | k + 1, i => wantF_up r (fun j => lampV_up _ (seqW_up r k j)) i
theorem seq_stands (r : Row) (n : Nat) : ∃ K, (∀ j, j < n → seqW r (K + 1) j = seqW r K j) ∧ ∀ k, k < K → ∃ j, j < n ∧ seqW r (k + 1) j ≠ seqW r k j :=
  stands n 3 (seqW r) (fun j _ => by simp [seqW]) (fun k j _ => seqW_up r k j) (fun k j _ => (seqW_in r k j).2)
/-- A loop that gathers, one element after the other. -/
theorem gather {α β σ ρ : Type} {F : σ → Option (σ ⊕ ρ)} (st : List β → Int → σ) (xs : List α) (g : α → β) {r : ρ} (hstep : ∀ (row : List β) (i : Nat) (x : α), xs[i]? = some x → row.length = i → F (st row (i : Int)) = some (.inl (st (row ++ [g x]) ((i + 1 : Nat) : Int)))) (hend : F (st (xs.map g) (xs.length : Int)) = some (.inr r)) : loopO F (st [] (0 : Int)) = some r := by
  have := loopO_run (F := F) xs.length (fun i => st ((xs.take i).map g) (i : Int)) (r := r) (fun i hi => ?_) (by rw [List.take_length]; exact hend)
  · simpa using this
  · have hx : xs[i]? = some xs[i] := List.getElem?_eq_getElem hi
    rw [hstep _ i xs[i] hx (by rw [List.length_map, List.length_take]; omega), show (xs.take i).map g ++ [g xs[i]] = (xs.take (i + 1)).map g by rw [List.take_succ_eq_append_getElem hi, List.map_append]; rfl]
theorem str_eq (a b : ByteArray) : (a.toList == b.toList) = decide (a = b) := by
  rw [Bool.eq_iff_iff, decide_eq_true_eq, ByteArray.toList_eq, ByteArray.toList_eq, beq_iff_eq]
  exact ⟨fun h => by cases a; cases b; simp only [Array.toList_inj] at h; rw [h], fun h => by rw [h]⟩
/-- The first place, if any, at which a search ends. -/
def firstO {ρ : Type} (n : Nat) (b : Nat → Option ρ) (e : Option ρ) : Option ρ := match (List.range n).findSome? b with | some r => some r | none => e
theorem firstO_none {ρ : Type} {n : Nat} {b : Nat → Option ρ} {e : Option ρ} (h : ∀ i, i < n → b i = none) : firstO n b e = e := by
  unfold firstO
  rw [List.findSome?_eq_none_iff.2 (fun x hx => h x (List.mem_range.1 hx))]
theorem firstO_some {ρ : Type} {n : Nat} {b : Nat → Option ρ} {e : Option ρ} {i : Nat} {r : ρ} (hi : i < n) (h : ∀ j, j < i → b j = none) (hr : b i = some r) : firstO n b e = some r := by
  unfold firstO
  have e1 : n = i + ((n - i - 1) + 1) := by omega
  have h0 : (List.range i).findSome? b = none := List.findSome?_eq_none_iff.2 fun x hx => h x (List.mem_range.1 hx)
  rw [e1, List.range_add, List.findSome?_append, h0, List.range_succ_eq_map]
  simp [hr]
/-- A search is: no place ends it, or a first one does. -/
theorem first_cases {ρ : Type} (n : Nat) (b : Nat → Option ρ) : (∀ i, i < n → b i = none) ∨ ∃ i r, i < n ∧ (∀ j, j < i → b j = none) ∧ b i = some r := by
  induction n with
  | zero => exact .inl (fun i hi => by omega)
  | succ n ih =>
    rcases ih with h | ⟨i, r, h1, h2, h3⟩
    · cases hb : b n with
      | none =>
        refine .inl (fun i hi => ?_)
        rcases Nat.lt_or_ge i n with hl | hl
        · exact h i hl
        · have : i = n := by omega
          subst this; exact hb
      | some r => exact .inr ⟨n, r, by omega, h, hb⟩
    · exact .inr ⟨i, r, by omega, h2, h3⟩
/-- A loop that searches. -/
theorem loop_find {σ ρ : Type} {F : σ → Option (σ ⊕ ρ)} (n : Nat) (st : Nat → σ) (b : Nat → Option ρ) (e : Option ρ) (h : ∀ i, i < n → (∀ j, j < i → b j = none) → F (st i) = some ((b i).elim (.inl (st (i + 1))) .inr)) (hend : (∀ j, j < n → b j = none) → F (st n) = e.map .inr) : loopO F (st 0) = firstO n b e := by
  have key : ∀ k i, i + k = n → (∀ j, j < i → b j = none) → loopO F (st i) = firstO n b e := by
    intro k
    induction k with
    | zero =>
      intro i hi hb
      have : i = n := by omega
      subst this
      rw [loopO_eq, hend hb, firstO_none hb]
      cases e <;> rfl
    | succ k ih =>
      intro i hi hb
      rw [loopO_eq, h i (by omega) hb]
      cases hr : b i with
      | some r => rw [firstO_some (by omega) hb hr]; rfl
      | none =>
        simp only [Option.bind_some, Option.elim]
        refine ih (i + 1) (by omega) (fun j hj => ?_)
        rcases Nat.lt_or_ge j i with hl | hl
        · exact hb j hl
        · have : j = i := by omega
          subst this; exact hr
  exact key n 0 (by omega) (fun j hj => by omega)
/-- A loop that gathers. -/
theorem loop_fold {α β ρ : Type} {F : β × Int → Option ((β × Int) ⊕ ρ)} (xs : List α) (g : β → α → β) (a0 : β) (e : β → Option ρ) (h : ∀ (a : β) (i : Nat) (x : α), xs[i]? = some x → F (a, (i : Int)) = some (.inl (g a x, ((i + 1 : Nat) : Int)))) (hend : ∀ a, F (a, (xs.length : Int)) = (e a).map .inr) : loopO F (a0, (0 : Int)) = e (xs.foldl g a0) := by
  have key : ∀ k i (a : β), i + k = xs.length → loopO F (a, (i : Int)) = e ((xs.drop i).foldl g a) := by
    intro k
    induction k with
    | zero =>
      intro i a hi
      have : i = xs.length := by omega
      subst this
      rw [loopO_eq, hend, List.drop_length, List.foldl_nil]
      cases e a <;> rfl
    | succ k ih =>
      intro i a hi
      have hlt : i < xs.length := by omega
      rw [loopO_eq, h a i _ (List.getElem?_eq_getElem hlt), List.drop_eq_getElem_cons hlt, List.foldl_cons]
      exact ih (i + 1) _ (by omega)
  have := key xs.length 0 a0 (by omega)
  simpa using this
section
variable {κ ν : Type} [DecidableEq κ]
theorem mfind_none {k : κ} : ∀ {m : List (κ × ν)} {i : Nat}, mfind k m i = none → ∀ j, mfind k m j = none
  | [], _, _, _ => rfl
  | e :: m, i, h, j => by
    unfold mfind at h ⊢
    split at h
    · cases h
    · rename_i hk; rw [if_neg hk]; exact mfind_none h (j + 1)
theorem mget_cons (k : κ) (e : κ × ν) (m : List (κ × ν)) (z : ν) : mget k (e :: m) z = if k = e.1 then e.2 else mget k m z := by
  by_cases hk : k = e.1
  · rw [if_pos hk]
    unfold mget mfind
    rw [if_pos hk]
  · rw [if_neg hk]
    unfold mget
    have h0 : mfind k (e :: m) 0 = mfind k m (0 + 1) := by rw [mfind, if_neg hk]
    rw [h0]
    have key : ∀ (m : List (κ × ν)) i j, (mfind k m i).map (·.2) = (mfind k m j).map (·.2) := by
      intro m
      induction m with
      | nil => intro i j; rfl
      | cons e m ih =>
        intro i j
        unfold mfind
        split
        · rfl
        · exact ih _ _
    have := key m (0 + 1) 0
    cases h1 : mfind k m (0 + 1) <;> cases h2 : mfind k m 0 <;> rw [h1, h2] at this <;> simp_all
theorem mget_append (k k' : κ) (v : ν) (z : ν) : ∀ (m : List (κ × ν)), mfind k' m 0 = none → mget k (m ++ [(k', v)]) z = if k = k' then v else mget k m z
  | [], _ => by rw [List.nil_append, mget_cons]
  | e :: m, h => by
    have h' : k' ≠ e.1 ∧ mfind k' m 0 = none := by
      unfold mfind at h
      split at h
      · cases h
      · rename_i hk; exact ⟨hk, mfind_none h 0⟩
    rw [List.cons_append, mget_cons, mget_append k k' v z m h'.2, mget_cons]
    by_cases h1 : k = e.1
    · rw [if_pos h1, if_pos h1, if_neg (fun (h2 : k = k') => h'.1 (h2 ▸ h1))]
    · rw [if_neg h1, if_neg h1]
theorem mget_setAt (k k' : κ) (v : ν) (z : ν) : ∀ (m : List (κ × ν)) (n i : Nat) (x : ν), mfind k' m n = some (n + i, x) → mget k (m.set i (k', v)) z = if k = k' then v else mget k m z
  | [], _, _, _, h => by cases h
  | e :: m, n, i, x, h => by
    unfold mfind at h
    split at h
    · rename_i hk
      simp only [Option.some.injEq, Prod.mk.injEq] at h
      have : i = 0 := by omega
      subst this
      rw [List.set_cons_zero, mget_cons, mget_cons, hk]
      by_cases h1 : k = e.1
      · rw [if_pos h1, if_pos h1]
      · rw [if_neg h1, if_neg h1, if_neg h1]
    · rename_i hk
      have hi := (mfind_get h).1
      simp only [] at hi
      obtain ⟨i', rfl⟩ : ∃ i', i = i' + 1 := ⟨i - 1, by omega⟩
      rw [List.set_cons_succ, mget_cons, mget_setAt k k' v z m (n + 1) i' x (by rw [h]; congr 2; omega), mget_cons]
      by_cases h1 : k = e.1
      · rw [if_pos h1, if_pos h1, if_neg (fun (h2 : k = k') => hk (h2 ▸ h1))]
      · rw [if_neg h1, if_neg h1]
theorem mget_mset (k k' : κ) (v z : ν) (m : List (κ × ν)) : mget k (mset k' v m) z = if k = k' then v else mget k m z := by
  unfold mset
  cases h : mfind k' m 0 with
  | none => exact mget_append k k' v z m h
  | some x =>
    obtain ⟨i, y⟩ := x
    exact mget_setAt k k' v z m 0 i y (by rw [h, Nat.zero_add])
/-- What has been set under keys of a list. -/
theorem mget_keys {α : Type} (p : α → Bool) (f : α → κ) (xs : List α) (k : κ) : mget k (xs.foldl (fun m x => bif p x then mset (f x) true m else m) []) false = xs.any fun x => p x && decide (f x = k) := by
  have key : ∀ (xs : List α) (m : List (κ × Bool)), mget k (xs.foldl (fun m x => bif p x then mset (f x) true m else m) m) false = (mget k m false || xs.any fun x => p x && decide (f x = k)) := by
    intro xs
    induction xs with
    | nil => intro m; simp
    | cons x xs ih =>
      intro m
      rw [List.foldl_cons, ih, List.any_cons]
      cases hp : p x with
      | false => simp
      | true =>
        rw [cond_true, mget_mset]
        by_cases hk : k = f x
        · rw [if_pos hk]; simp [hk]
        · rw [if_neg hk]
          have : decide (f x = k) = false := decide_eq_false (fun h => hk h.symm)
          simp [this]
  rw [key]
  rfl
end
theorem firstO_any {ρ : Type} (n : Nat) (p : Nat → Bool) (r : ρ) (e : Option ρ) : firstO n (fun i => bif p i then some r else none) e = bif (List.range n).any p then some r else e := by
  rcases first_cases n (fun i => bif p i then some r else none) with h | ⟨i, r', hi, hj, hr⟩
  · rw [firstO_none h]
    have : (List.range n).any p = false := by
      rw [List.any_eq_false]
      intro x hx
      have := h x (List.mem_range.1 hx)
      cases hp : p x <;> simp_all
    rw [this]; rfl
  · rw [firstO_some hi hj hr]
    have hp : p i = true := by cases hp : p i <;> simp_all
    have : (List.range n).any p = true := List.any_eq_true.2 ⟨i, List.mem_range.2 hi, hp⟩
    rw [this]
    simp_all
theorem firstO_all (n : Nat) (p : Nat → Bool) (e : Bool) : firstO n (fun i => bif p i then none else some false) (some e) = some ((List.range n).all p && e) := by
  have : (fun i => bif p i then (none : Option Bool) else some false) = fun i => bif !p i then some false else none := by funext i; cases p i <;> rfl
  rw [this, firstO_any]
  have : ((List.range n).any fun i => !p i) = !((List.range n).all p) := by rw [List.not_all_eq_any_not]
  rw [this]
  cases (List.range n).all p <;> rfl
theorem firstO_is {ρ : Type} (n : Nat) (b : Nat → Option ρ) {e : Option ρ} (h : ∃ r, e = some r) : ∃ r, firstO n b e = some r := by
  unfold firstO
  split
  · exact ⟨_, rfl⟩
  · exact h
theorem firstO_congr {ρ : Type} {n : Nat} {b b' : Nat → Option ρ} {e e' : Option ρ} (h : ∀ i, i < n → b i = b' i) (he : (∀ i, i < n → b i = none) → e = e') : firstO n b e = firstO n b' e' := by
  rcases first_cases n b with h1 | ⟨i, r, hi, hj, hr⟩
  · rw [firstO_none h1, firstO_none (fun i hi => by rw [← h i hi]; exact h1 i hi)]; exact he h1
  · rw [firstO_some hi hj hr, firstO_some hi (fun j hl => by rw [← h j (by omega)]; exact hj j hl) (by rw [← h i hi]; exact hr)]
theorem cond_some {α : Type} (b : Bool) (x y : α) : (bif b then some x else some y) = some (bif b then x else y) := by cases b <;> rfl
theorem range_any_take {α : Type} (xs : List α) (g : α → Bool) : ∀ i, ((List.range i).any fun j => (xs[j]?).any g) = (xs.take i).any g
  | 0 => by simp
  | i + 1 => by
    rw [List.range_succ, List.any_append, range_any_take xs g i, List.take_add_one, List.any_append, List.any_cons, List.any_nil, Bool.or_false]
    cases xs[i]? <;> simp [Option.any]
theorem foldl_take {α β : Type} (g : β → α → β) (a : β) {xs : List α} {i : Nat} {x : α} (h : xs[i]? = some x) : (xs.take (i + 1)).foldl g a = g ((xs.take i).foldl g a) x := by
  rw [List.take_add_one, List.foldl_append, h]; rfl
theorem byteAt_ok {s : ByteArray} {i : Nat} (h : i < s.size) : byteAt s (i : Int) = some ((byteAt s (i : Int)).getD 0) := by
  unfold byteAt
  rw [if_pos (by omega), Int.toNat_natCast, getElem?_pos s i h]
  rfl
theorem loopO_elim {σ ρ : Type} (F : σ → Option (σ ⊕ ρ)) (s : σ) : loopO F s = (F s).bind (Sum.elim (loopO F) some) := by
  rw [loopO_eq]
  congr 1
  funext x
  cases x <;> rfl
theorem firstO_step {σ ρ : Type} (n : Nat) (b : Nat → Option ρ) (s : σ) (k : σ → Option ρ) : ((firstO n (fun i => (b i).map Sum.inr) (some (.inl s))).bind (Sum.elim k some)) = firstO n b (k s) := by
  rcases first_cases n b with h | ⟨i, r, hi, hj, hr⟩
  · rw [firstO_none h, firstO_none (fun i hi => by rw [h i hi]; rfl)]; rfl
  · rw [firstO_some hi hj hr, firstO_some (r := .inr r) hi (fun j hl => by rw [hj j hl]; rfl) (by rw [hr]; rfl)]; rfl
theorem mget_counts {κ : Type} [DecidableEq κ] (xs : List κ) (k : κ) : mget k (xs.foldl (fun m x => mset x (w64 (mget x m 0 + 1)) m) []) 0 = xs.foldl (fun a x => bif decide (x = k) then w64 (a + 1) else a) (0 : Int) := by
  have key : ∀ (xs : List κ) (m : List (κ × Int)), mget k (xs.foldl (fun m x => mset x (w64 (mget x m 0 + 1)) m) m) 0 = xs.foldl (fun a x => bif decide (x = k) then w64 (a + 1) else a) (mget k m 0) := by
    intro xs
    induction xs with
    | nil => intro m; rfl
    | cons x xs ih =>
      intro m
      rw [List.foldl_cons, ih, List.foldl_cons, mget_mset]
      by_cases hk : x = k
      · subst hk; simp
      · rw [if_neg (fun h => hk h.symm)]; simp [hk]
  rw [key]
  rfl
theorem firstO_mem {ρ : Type} {n : Nat} {b : Nat → Option ρ} {e : Option ρ} {r : ρ} (h : firstO n b e = some r) : (∃ i, i < n ∧ b i = some r) ∨ ((∀ i, i < n → b i = none) ∧ e = some r) := by
  rcases first_cases n b with h1 | ⟨i, r', hi, hj, hr⟩
  · rw [firstO_none h1] at h; exact .inr ⟨h1, h⟩
  · rw [firstO_some hi hj hr] at h; exact .inl ⟨i, hi, hr.trans h⟩
theorem bif_some {α : Type} {b : Bool} {x y : α} (h : (bif b then some x else none) = some y) : b = true ∧ x = y := by
  cases b
  · cases h
  · exact ⟨rfl, by simpa using h⟩
theorem bif_none {α : Type} {b : Bool} {x : α} (h : (bif b then some x else none) = none) : b = false := by
  cases b
  · rfl
  · cases h
theorem firstO_elim {σ ρ : Type} (n : Nat) (b : Nat → Option ρ) (s : σ) : firstO n (fun i => (b i).map Sum.inr) (some (.inl s)) = some ((firstO n b none).elim (.inl s) .inr) := by
  rcases first_cases n b with h | ⟨i, r, hi, hj, hr⟩
  · rw [firstO_none h, firstO_none (fun i hi => by rw [h i hi]; rfl)]; rfl
  · rw [firstO_some hi hj hr, firstO_some (r := .inr r) hi (fun j hl => by rw [hj j hl]; rfl) (by rw [hr]; rfl)]; rfl
theorem firstO_no {ρ : Type} {n : Nat} {b : Nat → Option ρ} {e : Option ρ} (h : firstO n b e = none) : ∀ i, i < n → b i = none := by
  rcases first_cases n b with h1 | ⟨i, r, hi, hj, hr⟩
  · exact h1
  · rw [firstO_some hi hj hr] at h; cases h
/-- Two loops that do the same. -/
theorem loop_twin {σ ρ : Type} {F F' : σ → Option (σ ⊕ ρ)} (n : Nat) (Inv : Nat → σ → Prop) (s0 : σ) (h0 : Inv 0 s0) (h : ∀ i s, i < n → Inv i s → F s = F' s ∧ ((∃ s', F' s = some (.inl s') ∧ Inv (i + 1) s') ∨ ∃ r, F' s = some (.inr r))) (hend : ∀ s, Inv n s → F s = F' s ∧ ∃ r, F' s = some (.inr r)) : ∃ r, loopO F s0 = some r ∧ loopO F' s0 = some r := by
  have key : ∀ k i s, i + k = n → Inv i s → ∃ r, loopO F s = some r ∧ loopO F' s = some r := by
    intro k
    induction k with
    | zero =>
      intro i s hi hs
      have : i = n := by omega
      subst this
      obtain ⟨h1, r, h2⟩ := hend s hs
      exact ⟨r, by rw [loopO_eq, h1, h2]; rfl, by rw [loopO_eq, h2]; rfl⟩
    | succ k ih =>
      intro i s hi hs
      obtain ⟨h1, h2⟩ := h i s (by omega) hs
      rcases h2 with ⟨s', h2, h3⟩ | ⟨r, h2⟩
      · obtain ⟨r, h4, h5⟩ := ih (i + 1) s' (by omega) h3
        exact ⟨r, by rw [loopO_eq, h1, h2]; exact h4, by rw [loopO_eq, h2]; exact h5⟩
      · exact ⟨r, by rw [loopO_eq, h1, h2]; rfl, by rw [loopO_eq, h2]; rfl⟩
  exact key n 0 s0 (by omega) h0
structure GoodRow (r : Row) : Prop where
  n60 : r.Next.length ≤ 60
  lo : r.Open.length = r.Next.length
  lw : r.Works.length = r.Next.length
  next : ∀ i, i < r.Next.length → ∃ k, r.Next[i]? = some k ∧ -1 ≤ k ∧ k < (r.Next.length : Int)
  works : ∀ i, i < r.Next.length → ∃ w, r.Works[i]? = some w ∧ w.length = 4
theorem row_good {r : Row} (h : f145 r = some 0) : GoodRow r := by
  unfold f145 at h
  rcases Bool.eq_false_or_eq_true (((decide ((r.Next.length : Int) > (60 : Int)) || ((r.Far.length : Int) != (r.Next.length : Int))) || ((r.Open.length : Int) != (r.Next.length : Int))) || ((r.Works.length : Int) != (r.Next.length : Int))) with hb | hb
  · rw [hb] at h; cases h
  rw [hb] at h
  simp only [Bool.or_eq_false_iff, decide_eq_false_iff_not, bne_eq_false_iff_eq] at hb
  obtain ⟨⟨⟨hb1, hb2⟩, hb3⟩, hb4⟩ := hb
  simp only [cond_false] at h
  have k2 : loopO (f145_L2 r) (0 : Int) = firstO r.Works.length (fun i => bif (r.Works[i]?).any (fun w => ((w.length : Int) != 4)) then some (3 : Int) else none) (some 0) := by
    refine loop_find (F := f145_L2 r) r.Works.length (fun i => (i : Int)) _ _ (fun i hi _ => ?_) (fun _ => ?_)
    · unfold f145_L2
      simp only [lt_t hi, cond_true, getI_ok hi, Option.bind_some, List.getElem?_eq_getElem hi, Option.any_some]
      rw [w64_nat (by omega)]
      cases ((r.Works[i].length : Int) != 4) <;> rfl
    · unfold f145_L2
      simp only [lt_f, cond_false]
  have k1 : loopO (f145_L1 r) (0 : Int) = firstO r.Next.length (fun i => bif (r.Next[i]?).any (fun k => !(decide (k ≥ -1) && decide (k ≤ w64 ((r.Next.length : Int) - 1))) || (r.Far[i]?).any (fun f => !(decide (f ≥ 0) && decide (f ≤ 1000000)))) then some (2 : Int) else none) (loopO (f145_L2 r) (0 : Int)) := by
    refine loop_find (F := f145_L1 r) r.Next.length (fun i => (i : Int)) _ _ (fun i hi _ => ?_) (fun _ => ?_)
    · unfold f145_L1
      have hi2 : i < r.Far.length := by omega
      simp only [lt_t hi, cond_true, getI_ok hi, getI_ok hi2, Option.bind_some, List.getElem?_eq_getElem hi, List.getElem?_eq_getElem hi2, Option.any_some, f171]
      rw [w64_nat (by omega)]
      generalize (decide (r.Next[i] ≥ -1) && decide (r.Next[i] ≤ w64 ((r.Next.length : Int) - 1))) = b1
      generalize (decide (r.Far[i] ≥ 0) && decide (r.Far[i] ≤ 1000000)) = b2
      cases b1 <;> cases b2 <;> rfl
    · unfold f145_L1
      simp only [lt_f, cond_false]
  rw [k1] at h
  rcases firstO_mem h with ⟨i, _, h1⟩ | ⟨h1, h2⟩
  · obtain ⟨_, h9⟩ := bif_some h1; cases h9
  rw [k2] at h2
  rcases firstO_mem h2 with ⟨i, _, h3⟩ | ⟨h3, _⟩
  · obtain ⟨_, h9⟩ := bif_some h3; cases h9
  refine ⟨by omega, by omega, by omega, fun i hi => ?_, fun i hi => ?_⟩
  · have := h1 i hi
    rw [List.getElem?_eq_getElem hi, Option.any_some] at this
    refine ⟨_, List.getElem?_eq_getElem hi, ?_⟩
    rw [w64_id ⟨by omega, by omega⟩] at this
    cases hc : (!(decide (r.Next[i] ≥ -1) && decide (r.Next[i] ≤ (r.Next.length : Int) - 1)) || (r.Far[i]?).any (fun f => !(decide (f ≥ 0) && decide (f ≤ 1000000)))) with
    | true => rw [hc] at this; cases this
    | false =>
      simp only [Bool.or_eq_false_iff, Bool.not_eq_false', Bool.and_eq_true, decide_eq_true_eq] at hc
      omega
  · have hi' : i < r.Works.length := by omega
    have := h3 i hi'
    rw [List.getElem?_eq_getElem hi', Option.any_some] at this
    refine ⟨_, List.getElem?_eq_getElem hi', ?_⟩
    cases hc : ((r.Works[i].length : Int) != 4) with
    | true => rw [hc] at this; cases this
    | false => rw [bne_eq_false_iff_eq] at hc; omega
theorem lamp_spec {w : List Bool} (hw : w.length = 4) {a : Int} (h0 : -1 ≤ a) (h3 : a ≤ 3) : f254 w a = some (lampV w a) := by
  have key : ∀ k : Nat, k ≤ 4 → loopO (f254_L1 w) ((k : Int) - 1) = some (lampN w k) := by
    intro k
    induction k with
    | zero =>
      intro _
      rw [loopO_eq]
      rfl
    | succ k ih =>
      intro hk
      have hkl : k < w.length := by omega
      rw [loopO_eq, show (((k + 1 : Nat) : Int) - 1) = (k : Int) by omega]
      unfold f254_L1
      simp only [show decide ((k : Int) ≥ 0) = true by rw [decide_eq_true_eq]; omega, cond_true, getI_ok hkl, Option.bind_some, lampN]
      rw [show w.getD k false = w[k] by rw [List.getD_eq_getElem?_getD, List.getElem?_eq_getElem hkl]; rfl]
      cases w[k] with
      | true => rfl
      | false =>
        rw [w64_id ⟨by omega, by omega⟩]
        exact ih (by omega)
  have := key (a + 1).toNat (by omega)
  unfold f254 lampV
  rw [← this]
  congr 1
  omega
theorem lamp_impl {r : Row} {w : List Bool} {i : Nat} (hi : r.Works[i]? = some w) (hi60 : i ≤ 60) (hw : w.length = 4) {a : Int} (h0 : -1 ≤ a) (h3 : a ≤ 3) {out : List Int} (ho : out.length ≤ 60) : loopO (f146_L2 r (i : Int)) (out, a) = some (.inl (out ++ [lampV w a], ((i + 1 : Nat) : Int))) := by
  have key : ∀ k : Nat, k ≤ 4 → loopO (f146_L2 r (i : Int)) (out, (k : Int) - 1) = some (.inl (out ++ [lampN w k], ((i + 1 : Nat) : Int))) := by
    intro k
    induction k with
    | zero =>
      intro _
      rw [loopO_eq]
      unfold f146_L2
      simp only [show decide ((((0 : Nat) : Int) - 1) ≥ 0) = false from rfl, cond_false, Option.bind_some]
      rw [appB_ok (by simp only [List.length_singleton]; omega), Option.bind_some, w64_nat (by omega)]
      rfl
    | succ k ih =>
      intro hk
      have hkl : k < w.length := by omega
      have step : f146_L2 r (i : Int) (out, (k : Int)) = some (bif w[k] then .inr (.inl (out ++ [(k : Int)], ((i + 1 : Nat) : Int))) else .inl (out, (k : Int) - 1)) := by
        unfold f146_L2
        simp only [show decide ((k : Int) ≥ 0) = true by rw [decide_eq_true_eq]; omega, cond_true, getI_nat, hi, List.getElem?_eq_getElem hkl, Option.bind_some]
        cases w[k] with
        | true =>
          simp only [Bool.not_true, cond_false]
          rw [appB_ok (by simp only [List.length_singleton]; omega), Option.bind_some, w64_nat (by omega)]
          rfl
        | false =>
          simp only [Bool.not_false, cond_true, cond_false]
          rw [w64_id ⟨by omega, by omega⟩]
      rw [loopO_eq, show (((k + 1 : Nat) : Int) - 1) = (k : Int) by omega, step]
      simp only [lampN]
      rw [show w.getD k false = w[k] by rw [List.getD_eq_getElem?_getD, List.getElem?_eq_getElem hkl]; rfl]
      cases w[k] with
      | true => rfl
      | false => exact ih (by omega)
  have := key (a + 1).toNat (by omega)
  unfold lampV
  rw [← this]
  congr 2
  omega
theorem works_at {r : Row} (hg : GoodRow r) {i : Nat} (hi : i < r.Next.length) : r.Works[i]? = some (worksF r i) ∧ (worksF r i).length = 4 := by
  obtain ⟨w, h1, h2⟩ := hg.works i hi
  unfold worksF
  rw [h1]
  exact ⟨rfl, h2⟩
theorem lamps_impl {r : Row} (hg : GoodRow r) {W : Nat → Int} (hW : ∀ i, 0 ≤ W i ∧ W i ≤ 3) : f146 r (vecL r.Next.length W) = some (vecL r.Next.length (lampsF r W)) := by
  have hn := hg.n60
  unfold f146
  refine gather (F := f146_L1 r (vecL r.Next.length W)) (fun out i => (out, i)) (List.range r.Next.length) (lampsF r W) (fun out i x hx hi => ?_) ?_
  · have hlt := get_lt hx
    rw [List.length_range] at hlt
    rw [List.getElem?_range hlt, Option.some.injEq] at hx
    subst hx
    obtain ⟨h1, h2⟩ := works_at hg hlt
    unfold f146_L1
    rw [vecL_len]
    simp only [lt_t hlt, cond_true, getI_nat, vecL_get W hlt, Option.bind_some]
    exact lamp_impl h1 (by omega) h2 (by have := hW i; omega) (hW i).2 (by omega)
  · unfold f146_L1
    rw [vecL_len, List.length_range]
    simp only [lt_f, cond_false]
    rfl
theorem want_spec {r : Row} (hg : GoodRow r) {S : Nat → Int} (hS : ∀ i, -1 ≤ S i ∧ S i ≤ 3) {i : Nat} (hi : i < r.Next.length) : f255 r (vecL r.Next.length S) (i : Int) = some (wantF r S i) := by
  obtain ⟨k, h1, h2, h3⟩ := hg.next i hi
  have hi' : i < r.Open.length := by have := hg.lo; omega
  unfold f255 wantF
  simp only [getI_nat, h1, List.getElem?_eq_getElem hi', Option.bind_some, Option.getD_some]
  cases r.Open[i] with
  | false => rfl
  | true =>
    simp only [Bool.not_true, cond_false]
    by_cases hk : k < 0
    · simp only [show decide (k < 0) = true by rw [decide_eq_true_eq]; exact hk, cond_true]
    · obtain ⟨q, rfl⟩ : ∃ q : Nat, k = (q : Int) := ⟨k.toNat, by omega⟩
      have hs := hS q
      simp only [show decide ((q : Int) < 0) = false by rw [decide_eq_false_iff_not]; omega, cond_false, getI_nat, vecL_get S (show q < r.Next.length by omega), Option.bind_some, Int.toNat_natCast]
      rw [w64_id ⟨by omega, by omega⟩]
      by_cases h : S q + 1 > 3
      · rw [show decide (S q + 1 > 3) = true by rw [decide_eq_true_eq]; exact h, cond_true, if_neg (by omega)]
      · rw [show decide (S q + 1 > 3) = false by rw [decide_eq_false_iff_not]; exact h, cond_false]
        split
        · rfl
        · congr 1; omega
theorem k3_eq {n i : Nat} (V W : Nat → Int) (b : Bool) (hi : i < n) (hn : n ≤ 60) : f147_k3 (vecL n (mixF i V W)) b (i : Int) (V i) = some (.inl (vecL n (mixF (i + 1) V W), b || (V i != W i), ((i + 1 : Nat) : Int))) := by
  have hm : mixF i V W i = W i := by unfold mixF; rw [if_neg (Nat.lt_irrefl i)]
  unfold f147_k3
  simp only [getI_nat, vecL_get _ hi, hm, Option.bind_some, Int.toNat_natCast, mix_set V W hi]
  rw [w64_nat (by omega)]
  cases b <;> rfl
theorem inner_impl {r : Row} (hg : GoodRow r) {W : Nat → Int} (hW : ∀ i, 0 ≤ W i ∧ W i ≤ 3) : loopO (f147_L2 r (vecL r.Next.length (lampsF r W))) (vecL r.Next.length W, false, (0 : Int)) = some (.inl (vecL r.Next.length (stepW r W), (List.range r.Next.length).any fun j => stepW r W j != W j)) := by
  have hn := hg.n60
  have := loopO_run (F := f147_L2 r (vecL r.Next.length (lampsF r W))) r.Next.length (fun i => (vecL r.Next.length (mixF i (stepW r W) W), (List.range i).any (fun j => stepW r W j != W j), (i : Int))) (r := .inl (vecL r.Next.length (stepW r W), (List.range r.Next.length).any fun j => stepW r W j != W j)) (fun i hi => ?_) ?_
  · rw [mix_zero] at this
    exact this
  · obtain ⟨k, h1, h2, h3⟩ := hg.next i hi
    have hi' : i < r.Open.length := by have := hg.lo; omega
    have hS : -1 ≤ lampsF r W k.toNat ∧ lampsF r W k.toNat ≤ 3 := lampV_in _ (by have := hW k.toNat; omega) (hW k.toNat).2
    have hk3 := k3_eq (stepW r W) W ((List.range i).any fun j => stepW r W j != W j) hi hn
    have hst : stepW r W i = wantF r (lampsF r W) i := rfl
    unfold wantF at hst
    rw [h1, List.getElem?_eq_getElem hi', Option.getD_some, Option.getD_some] at hst
    unfold f147_L2
    simp only [lt_t hi, cond_true, getI_nat, h1, List.getElem?_eq_getElem hi', Option.bind_some, List.range_succ, List.any_append, List.any_cons, List.any_nil, Bool.or_false]
    rw [← hk3]
    cases ho : r.Open[i] with
    | false =>
      rw [ho] at hst
      simp only [Bool.not_false, cond_true] at hst ⊢
      rw [hst]
    | true =>
      rw [ho] at hst
      simp only [Bool.not_true, cond_false] at hst ⊢
      by_cases hk : k < 0
      · simp only [show decide (k < 0) = true by rw [decide_eq_true_eq]; exact hk, cond_true] at hst ⊢
        rw [hst]
      · obtain ⟨q, rfl⟩ : ∃ q : Nat, k = (q : Int) := ⟨k.toNat, by omega⟩
        simp only [show decide ((q : Int) < 0) = false by rw [decide_eq_false_iff_not]; omega, cond_false, getI_nat, vecL_get (lampsF r W) (show q < r.Next.length by omega), Option.bind_some, Int.toNat_natCast] at hst hS ⊢
        rw [w64_id ⟨by omega, by omega⟩, ← hst]
  · unfold f147_L2
    simp only [lt_f, cond_false, Option.map_some, mix_all]
theorem impl_wants {r : Row} (hg : GoodRow r) {K : Nat} (hK : ∀ j, j < r.Next.length → seqW r (K + 1) j = seqW r K j) (hlt : ∀ k, k < K → ∃ j, j < r.Next.length ∧ seqW r (k + 1) j ≠ seqW r k j) : f147 r = some (vecL r.Next.length (seqW r K)) := by
  have hn := hg.n60
  unfold f147
  rw [makeB_ok (by omega), Option.bind_some, ← vecL_zero]
  refine loopO_run (F := f147_L1 r) (K + 1) (fun k => (vecL r.Next.length (seqW r k), Nat.ble k K)) (r := vecL r.Next.length (seqW r K)) (fun k hk => ?_) ?_
  · have e1 : Nat.ble k K = true := Nat.ble_eq_true_of_le (by omega)
    have e2 : ((List.range r.Next.length).any fun j => stepW r (seqW r k) j != seqW r k j) = Nat.ble (k + 1) K := by
      rcases Nat.lt_or_ge k K with h | h
      · obtain ⟨j, hj, hne⟩ := hlt k h
        rw [Nat.ble_eq_true_of_le (show k + 1 ≤ K by omega), List.any_eq_true]
        exact ⟨j, List.mem_range.2 hj, by rw [bne_iff_ne]; exact hne⟩
      · have : k = K := by omega
        subst this
        have e3 : Nat.ble (k + 1) k = false := by
          cases hb : Nat.ble (k + 1) k with
          | false => rfl
          | true => have := Nat.le_of_ble_eq_true hb; omega
        rw [e3, List.any_eq_false]
        intro j hj
        rw [bne_iff_ne]
        exact fun h => h (hK j (List.mem_range.1 hj))
    unfold f147_L1
    simp only [e1, cond_true]
    rw [lamps_impl hg (seqW_in r k), Option.bind_some, inner_impl hg (seqW_in r k), e2]
    rfl
  · have e3 : Nat.ble (K + 1) K = false := by
      cases hb : Nat.ble (K + 1) K with
      | false => rfl
      | true => have := Nat.le_of_ble_eq_true hb; omega
    unfold f147_L1
    simp only [e3, cond_false, Option.map_some, vecL_congr hK]
theorem inner_spec {r : Row} (hg : GoodRow r) {W : Nat → Int} (hW : ∀ i, 0 ≤ W i ∧ W i ≤ 3) : loopO (f142_L3 r (vecL r.Next.length (lampsF r W))) (vecL r.Next.length W, vecL r.Next.length (lampsF r W), ([] : List Int), ([] : List Int), true, (0 : Int)) = some (bif (List.range r.Next.length).all (fun j => (lampsF r (stepW r W) j == lampsF r W j) && (stepW r W j == W j)) then .inr (vecL r.Next.length W, vecL r.Next.length (lampsF r W)) else .inl (vecL r.Next.length (stepW r W), vecL r.Next.length (lampsF r (stepW r W)))) := by
  have hn := hg.n60
  have hS : ∀ i, -1 ≤ lampsF r W i ∧ lampsF r W i ≤ 3 := fun i => lampV_in _ (by have := hW i; omega) (hW i).2
  have hV : ∀ i, 0 ≤ stepW r W i ∧ stepW r W i ≤ 3 := fun i => wantF_in r (fun j => (hS j).1) i
  have := loopO_run (F := f142_L3 r (vecL r.Next.length (lampsF r W))) r.Next.length (fun i => (vecL r.Next.length W, vecL r.Next.length (lampsF r W), vecL i (stepW r W), vecL i (lampsF r (stepW r W)), (List.range i).all (fun j => (lampsF r (stepW r W) j == lampsF r W j) && (stepW r W j == W j)), (i : Int))) (r := bif (List.range r.Next.length).all (fun j => (lampsF r (stepW r W) j == lampsF r W j) && (stepW r W j == W j)) then .inr (vecL r.Next.length W, vecL r.Next.length (lampsF r W)) else .inl (vecL r.Next.length (stepW r W), vecL r.Next.length (lampsF r (stepW r W)))) (fun i hi => ?_) ?_
  · exact this
  · obtain ⟨h1, h2⟩ := works_at hg hi
    have hl := lamp_spec h2 (a := stepW r W i) (by have := hV i; omega) (hV i).2
    have hl' : f254 (worksF r i) (stepW r W i) = some (lampsF r (stepW r W) i) := hl
    have hw : f255 r (vecL r.Next.length (lampsF r W)) (i : Int) = some (stepW r W i) := want_spec hg hS hi
    unfold f142_L3
    rw [vecL_len]
    simp only [lt_t hi, cond_true, hw, Option.bind_some, getI_nat, h1, hl', vecL_get _ hi, List.range_succ, List.all_append, List.all_cons, List.all_nil, Bool.and_true]
    rw [appB_ok (by rw [vecL_len]; simp only [List.length_singleton]; omega), appB_ok (by rw [vecL_len]; simp only [List.length_singleton]; omega), w64_nat (by omega)]
    simp only [Option.bind_some, vecL_succ]
    cases (List.range i).all (fun j => (lampsF r (stepW r W) j == lampsF r W j) && (stepW r W j == W j)) <;> cases (lampsF r (stepW r W) i == lampsF r W i) <;> rfl
  · unfold f142_L3
    rw [vecL_len]
    simp only [lt_f, cond_false]
    cases (List.range r.Next.length).all (fun j => (lampsF r (stepW r W) j == lampsF r W j) && (stepW r W j == W j)) <;> rfl
theorem spec_both {r : Row} (hg : GoodRow r) {K : Nat} (hK : ∀ j, j < r.Next.length → seqW r (K + 1) j = seqW r K j) (hlt : ∀ k, k < K → ∃ j, j < r.Next.length ∧ seqW r (k + 1) j ≠ seqW r k j) : f142 r = some (vecL r.Next.length (seqW r K), vecL r.Next.length (lampsF r (seqW r K))) := by
  have hn := hg.n60
  unfold f142
  rw [makeB_ok (by omega), Option.bind_some, Option.bind_some, ← vecL_zero]
  have h2 : loopO (f142_L2 r) (vecL r.Next.length (seqW r 0), vecL r.Next.length (lampsF r (seqW r 0))) = some (vecL r.Next.length (seqW r K), vecL r.Next.length (lampsF r (seqW r K))) := by
    refine loopO_run (F := f142_L2 r) K (fun k => (vecL r.Next.length (seqW r k), vecL r.Next.length (lampsF r (seqW r k)))) (fun k hk => ?_) ?_
    · unfold f142_L2
      obtain ⟨j, hj, hne⟩ := hlt k hk
      have e : (List.range r.Next.length).all (fun j => (lampsF r (stepW r (seqW r k)) j == lampsF r (seqW r k) j) && (stepW r (seqW r k) j == seqW r k j)) = false := by
        rw [List.all_eq_false]
        refine ⟨j, List.mem_range.2 hj, ?_⟩
        have : (stepW r (seqW r k) j == seqW r k j) = false := by rw [beq_eq_false_iff_ne]; exact hne
        rw [this, Bool.and_false]
        exact Bool.false_ne_true
      simp only []
      rw [inner_spec hg (seqW_in r k), e]
      rfl
    · unfold f142_L2
      have e : (List.range r.Next.length).all (fun j => (lampsF r (stepW r (seqW r K)) j == lampsF r (seqW r K) j) && (stepW r (seqW r K) j == seqW r K j)) = true := by
        rw [List.all_eq_true]
        intro j hj
        have h : stepW r (seqW r K) j = seqW r K j := hK j (List.mem_range.1 hj)
        have h' : lampsF r (stepW r (seqW r K)) j = lampsF r (seqW r K) j := by unfold lampsF; rw [h]
        rw [h, h', beq_self_eq_true, beq_self_eq_true]; rfl
      simp only []
      rw [inner_spec hg (seqW_in r K), e]
      rfl
  have h1 := loopO_run (F := f142_L1 r r.Next.length r.Next.length) r.Next.length (fun i => (vecL r.Next.length (mixF i (lampsF r (seqW r 0)) (fun _ => 0)), (i : Int))) (r := (vecL r.Next.length (seqW r K), vecL r.Next.length (lampsF r (seqW r K)))) (fun i hi => ?_) ?_
  · rw [mix_zero] at h1
    exact h1
  · obtain ⟨w1, w2⟩ := works_at hg hi
    have hl : f254 (worksF r i) 0 = some (lampsF r (seqW r 0) i) := lamp_spec w2 (by omega) (by omega)
    unfold f142_L1
    simp only [lt_t hi, cond_true, getI_nat, w1, Option.bind_some, hl, vecL_get _ hi, Int.toNat_natCast]
    rw [mix_set _ _ hi, w64_nat (by omega)]
  · unfold f142_L1
    simp only [lt_f, cond_false, mix_all]
    rw [← vecL_zero]
    have h3 : loopO (f142_L2 r) (vecL r.Next.length (fun _ => 0), vecL r.Next.length (lampsF r (seqW r 0))) = _ := h2
    rw [h3]; rfl
theorem main6 {r : Row} (hx : fitRow r) (hs : smRow r) : ∃ q, f44 r = some q ∧ f45 r = some q ∧ smL (fun _ => True) q := by
  obtain ⟨c, q1, q2⟩ := rowOk_eq hx hs
  unfold f44 f45
  simp only [q1, q2, Option.bind_some]
  by_cases hc : c = 0
  · subst hc
    have hg := row_good q2
    have hn := hg.n60
    obtain ⟨K, hK, hlt⟩ := seq_stands r r.Next.length
    simp only [bne_self_eq_false, cond_false, spec_both hg hK hlt, impl_wants hg hK hlt, Option.bind_some]
    exact ⟨_, rfl, rfl, by rw [vecL_len]; omega, fun _ _ => trivial⟩
  · have e1 : (c != 0) = true := by simp [hc]
    simp only [e1, cond_true]
    exact ⟨_, rfl, rfl, by simp, fun _ _ => trivial⟩

def ms_Row (x : Row) (k : Int) : Row := { Next := markAll mkI (fun _ => 1) x.Next k, Far := markAll mkI (fun _ => 1) x.Far (k + ((csum (fun _ => 1) x.Next : Nat) : Int)), Open := markAll mkB (fun _ => 1) x.Open (k + ((csum (fun _ => 1) x.Next : Nat) : Int) + ((csum (fun _ => 1) x.Far : Nat) : Int)), Works := markAll (markAll mkB (fun _ => 1)) (csum (fun _ => 1)) x.Works (k + ((csum (fun _ => 1) x.Next : Nat) : Int) + ((csum (fun _ => 1) x.Far : Nat) : Int) + ((csum (fun _ => 1) x.Open : Nat) : Int)) }
def cs_Row (x : Row) : Nat := csum (fun _ => 1) x.Next + (csum (fun _ => 1) x.Far + (csum (fun _ => 1) x.Open + (csum (csum (fun _ => 1)) x.Works)))
theorem f31_mark {x : List Int} {k : Int} (hx : (smL (fun _ => True)) x) (h0 : 0 ≤ k) (hb : k + ((csum (fun _ => 1) x : Nat) : Int) ≤ 4611686018427387904) : f31 x k = some (markAll mkI (fun _ => 1) x k, k + ((csum (fun _ => 1) x : Nat) : Int)) := by
  have hl := hx.1
  unfold f31
  refine mark_loop (F := f31_L1) (fun xs k i => (xs, k, i)) mkI (fun _ => 1) (fun _ => True) x.length (fun pre y post k hp h0 hb hn => ?_) (fun ys k hn => ?_) x [] k hx.2 h0 hb rfl
  · have hlen := len_mid hn
    have hb' : k + ((1 : Nat) : Int) ≤ 4611686018427387904 := hb
    unfold f31_L1
    simp (disch := omega) only [lt_mid, cond_true, getI_mid, set_mid, Option.bind_some, w64_up]
    rw [show k + (((fun _ => 1) y : Nat) : Int) = k + 1 from by show k + ((1 : Nat) : Int) = _; omega]
    rfl
  · unfold f31_L1
    simp only [← hn, lt_f, cond_false, Option.map_some]
theorem f135_mark {x : List Bool} {k : Int} (hx : (smL (fun _ => True)) x) (h0 : 0 ≤ k) (hb : k + ((csum (fun _ => 1) x : Nat) : Int) ≤ 4611686018427387904) : f135 x k = some (markAll mkB (fun _ => 1) x k, k + ((csum (fun _ => 1) x : Nat) : Int)) := by
  have hl := hx.1
  unfold f135
  refine mark_loop (F := f135_L1) (fun xs k i => (xs, k, i)) mkB (fun _ => 1) (fun _ => True) x.length (fun pre y post k hp h0 hb hn => ?_) (fun ys k hn => ?_) x [] k hx.2 h0 hb rfl
  · have hlen := len_mid hn
    have hb' : k + ((1 : Nat) : Int) ≤ 4611686018427387904 := hb
    unfold f135_L1
    simp (disch := omega) only [lt_mid, cond_true, getI_mid, set_mid, Option.bind_some, w64_up]
    rw [show k + (((fun _ => 1) y : Nat) : Int) = k + 1 from by show k + ((1 : Nat) : Int) = _; omega]
    rfl
  · unfold f135_L1
    simp only [← hn, lt_f, cond_false, Option.map_some]
theorem f149_mark {x : List (List Bool)} {k : Int} (hx : (smL (smL (fun _ => True))) x) (h0 : 0 ≤ k) (hb : k + ((csum (csum (fun _ => 1)) x : Nat) : Int) ≤ 4611686018427387904) : f149 x k = some (markAll (markAll mkB (fun _ => 1)) (csum (fun _ => 1)) x k, k + ((csum (csum (fun _ => 1)) x : Nat) : Int)) := by
  have hl := hx.1
  unfold f149
  refine mark_loop (F := f149_L1) (fun xs k i => (xs, k, i)) (markAll mkB (fun _ => 1)) (csum (fun _ => 1)) (smL (fun _ => True)) x.length (fun pre y post k hp h0 hb hn => ?_) (fun ys k hn => ?_) x [] k hx.2 h0 hb rfl
  · have hlen := len_mid hn
    have hb' : k + ((csum (fun _ => 1) y : Nat) : Int) ≤ 4611686018427387904 := hb
    unfold f149_L1
    simp (disch := omega) only [lt_mid, cond_true, getI_mid, set_mid, Option.bind_some, w64_up, f135_mark (x := y) hp]
    rw [show k + (((csum (fun _ => 1)) y : Nat) : Int) = k + ((csum (fun _ => 1) y : Nat) : Int) from by show k + ((csum (fun _ => 1) y : Nat) : Int) = _; omega]
    rfl
  · unfold f149_L1
    simp only [← hn, lt_f, cond_false, Option.map_some]
theorem f43_mark {x : Row} {k : Int} (hx : smRow x) (h0 : 0 ≤ k) (hb : k + ((cs_Row x : Nat) : Int) ≤ 4611686018427387904) : f43 x k = some (ms_Row x k, k + ((cs_Row x : Nat) : Int)) := by
  unfold cs_Row at hb
  unfold f43
  rw [f31_mark (x := x.Next) (k := k) hx.1 (by omega) (by omega), Option.bind_some]
  dsimp only
  rw [f31_mark (x := x.Far) (k := k + ((csum (fun _ => 1) x.Next : Nat) : Int)) hx.2.1 (by omega) (by omega), Option.bind_some]
  dsimp only
  rw [f135_mark (x := x.Open) (k := k + ((csum (fun _ => 1) x.Next : Nat) : Int) + ((csum (fun _ => 1) x.Far : Nat) : Int)) hx.2.2.1 (by omega) (by omega), Option.bind_some]
  dsimp only
  rw [f149_mark (x := x.Works) (k := k + ((csum (fun _ => 1) x.Next : Nat) : Int) + ((csum (fun _ => 1) x.Far : Nat) : Int) + ((csum (fun _ => 1) x.Open : Nat) : Int)) hx.2.2.2 (by omega) (by omega), Option.bind_some]
  dsimp only
  rw [show k + ((cs_Row x : Nat) : Int) = k + ((csum (fun _ => 1) x.Next : Nat) : Int) + ((csum (fun _ => 1) x.Far : Nat) : Int) + ((csum (fun _ => 1) x.Open : Nat) : Int) + ((csum (csum (fun _ => 1)) x.Works : Nat) : Int) from by unfold cs_Row; omega]
  rfl
theorem cs_Row_le (x : Row) (hx : smRow x) : cs_Row x ≤ 1099514773504 := by
  unfold cs_Row
  have h0 : (csum (fun _ => 1)) x.Next ≤ 1048576 := by
    have h := (fun _ hx => csum_bd (p := (fun _ => True)) (fun _ _ => Nat.le_refl 1) hx.1 hx.2) x.Next hx.1
    exact h
  have h1 : (csum (fun _ => 1)) x.Far ≤ 1048576 := by
    have h := (fun _ hx => csum_bd (p := (fun _ => True)) (fun _ _ => Nat.le_refl 1) hx.1 hx.2) x.Far hx.2.1
    exact h
  have h2 : (csum (fun _ => 1)) x.Open ≤ 1048576 := by
    have h := (fun _ hx => csum_bd (p := (fun _ => True)) (fun _ _ => Nat.le_refl 1) hx.1 hx.2) x.Open hx.2.2.1
    exact h
  have h3 : (csum (csum (fun _ => 1))) x.Works ≤ 1099511627776 := by
    have h := (fun _ hx => csum_bd (p := (smL (fun _ => True))) (fun _ hx => csum_bd (p := (fun _ => True)) (fun _ _ => Nat.le_refl 1) hx.1 hx.2) hx.1 hx.2) x.Works hx.2.2.2
    exact h
  omega
theorem f32_held {x : List Int} {k : Int} (hx : (smL (fun _ => True)) x) (h0 : 0 ≤ k) (hb : k + ((csum (fun _ => 1) x : Nat) : Int) ≤ 4611686018427387904) : f32 (markAll mkI (fun _ => 1) x k) k = some (k + ((csum (fun _ => 1) x : Nat) : Int)) := by
  have hl := hx.1
  unfold f32
  refine held_loop (F := f32_L1 (markAll mkI (fun _ => 1) x k)) (fun k i => (k, i)) mkI (fun _ => 1) (fun _ => True) (markAll mkI (fun _ => 1) x k) (fun i y k hp h0 hb hy => ?_) (fun k2 => ?_) x [] k rfl hx.2 h0 hb
  · have hlen := get_lt hy
    have hlt := lt_t hlen
    rw [markAll_len] at hlen
    have hb' : k + ((1 : Nat) : Int) ≤ 4611686018427387904 := hb
    unfold f32_L1
    simp (disch := omega) only [hlt, cond_true, getI_nat, hy, Option.bind_some, mkI, bne_self_eq_false, beq_self_eq_true, Bool.not_true, cond_false, w64_up, ltz]
    rw [show k + (((fun _ => 1) y : Nat) : Int) = k + 1 from by show k + ((1 : Nat) : Int) = _; omega]
    rfl
  · unfold f32_L1
    simp only [lt_f, cond_false, Option.map_some]
theorem law6 (aAR0 : Row) (haAR0 : fitRow aAR0) : f6 aAR0 = some true := by
  unfold f6
  obtain ⟨v0, e0, a0, b0⟩ := f38_sz (x := aAR0) (left := 1048576) (by omega) (by omega) haAR0
  rw [e0, Option.bind_some]
  rcases Bool.eq_false_or_eq_true (decide (v0 < (0 : Int))) with hb0 | hb0
  · rw [hb0]; rfl
  rw [hb0, cond_false]; simp only [decide_eq_false_iff_not] at hb0
  have saAR0 := b0.resolve_left hb0
  obtain ⟨r, m1, m2, m3⟩ := main6 haAR0 saAR0
  have u0 : cs_Row aAR0 ≤ 1099514773504 := by
    have h := cs_Row_le aAR0 saAR0
    exact h
  have k0 := f43_mark (x := aAR0) (k := (1 : Int)) saAR0 (by omega) (by omega)
  have u1 : (csum (fun _ => 1)) r ≤ 1048576 := by
    have h := (fun _ hx => csum_bd (p := (fun _ => True)) (fun _ _ => Nat.le_refl 1) hx.1 hx.2) r m3
    exact h
  have k1 := f31_mark (x := r) (k := (1 : Int)) m3 (by omega) (by omega)
  have j1 := f32_held (x := r) (k := (1 : Int)) m3 (by omega) (by omega)
  simp only [f40_to (x := aAR0) saAR0, f28_eq (x := r) m3, f42_eq (x := aAR0) saAR0, k0, ltz (show (0:Int) ≤ (1 : Int) + ((cs_Row aAR0 : Nat) : Int) by omega), k1, ltz (show (0:Int) ≤ (1 : Int) + (((csum (fun _ => 1)) r : Nat) : Int) by omega), j1, Option.bind_some, m1, m2, bne_self_eq_false, beq_self_eq_true, Bool.not_true, cond_false]

end
end Go.Proofs.Ytkfekjcahepfnaa.K
