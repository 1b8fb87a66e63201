/-
  Plain laws on the printed functions' loops and numbers: no program in sight. No conditions.
-/
import Derived.Test.YtblodpbcinkehaaKr
import Derived.IntWalk
set_option linter.unusedVariables false
set_option linter.unusedSimpArgs false
namespace Go.Proofs.Ytblodpbcinkehaa.K

theorem w64_id {x : Int} (h : -9223372036854775808 ≤ x ∧ x ≤ 9223372036854775807) : w64 x = x := IntWalk.i64_in x h
theorem w64_nat {i : Nat} (h : i < 9223372036854775807) : w64 ((i : Int) + 1) = ((i + 1 : Nat) : Int) := by rw [w64_id ⟨by omega, by omega⟩]; rfl
theorem getI_nat {α : Type} (xs : List α) (i : Nat) : getI xs (i : Int) = xs[i]? := by
  unfold getI
  rw [if_pos (by omega)]
  rfl
theorem getI_ok {α : Type} {xs : List α} {i : Nat} (h : i < xs.length) : getI xs (i : Int) = some xs[i] := by rw [getI_nat]; exact List.getElem?_eq_getElem h
theorem makeB_ok {by_ n : Nat} (h : n * (by_ + 1) ≤ 70368744177664) : makeB by_ (n : Int) = some n := by
  unfold makeB
  have h1 : (n : Int) * ((by_ : Int) + 1) ≤ 70368744177664 := by
    have e : (n : Int) * ((by_ : Int) + 1) = ((n * (by_ + 1) : Nat) : Int) := by rw [Int.natCast_mul, Int.natCast_add]; rfl
    rw [e]
    omega
  rw [if_pos ⟨Int.natCast_nonneg n, h1⟩]
  rfl

/-- A loop over 0..n: each round goes on or ends with an answer that is right; at n it ends. -/
theorem loopO_ex {σ ρ : Type} {F : σ → Option (σ ⊕ ρ)} (φ : ρ → Prop) (n : Nat) (st : Nat → σ) (h : ∀ i, i < n → F (st i) = some (.inl (st (i + 1))) ∨ ∃ r, F (st i) = some (.inr r) ∧ φ r) (hend : ∃ r, F (st n) = some (.inr r) ∧ φ r) : ∃ r, loopO F (st 0) = some r ∧ φ r := by
  have key : ∀ k i, i + k = n → ∃ r, loopO F (st i) = some r ∧ φ r := by
    intro k
    induction k with
    | zero =>
      intro i hi
      have : i = n := by omega
      subst this
      obtain ⟨r, h1, h2⟩ := hend
      exact ⟨r, by rw [loopO_eq, h1]; rfl, h2⟩
    | succ k ih =>
      intro i hi
      rcases h i (by omega) with h1 | ⟨r, h1, h2⟩
      · obtain ⟨r, h2, h3⟩ := ih (i + 1) (by omega)
        exact ⟨r, by rw [loopO_eq, h1]; exact h2, h3⟩
      · exact ⟨r, by rw [loopO_eq, h1]; rfl, h2⟩
  exact key n 0 (by omega)
/-- A loop over 0..n that never ends early. -/
theorem loopO_run {σ ρ : Type} {F : σ → Option (σ ⊕ ρ)} (n : Nat) (st : Nat → σ) {r : ρ} (h : ∀ i, i < n → F (st i) = some (.inl (st (i + 1)))) (hend : F (st n) = some (.inr r)) : loopO F (st 0) = some r := by
  obtain ⟨r', h1, h2⟩ := loopO_ex (φ := fun r' => r' = r) n st (fun i hi => .inl (h i hi)) ⟨r, hend, rfl⟩
  rw [h1, h2]
theorem set_take {α : Type} (ys : List α) (i : Nat) (z : α) (m : Nat) (h : ys.length = i) : (ys ++ List.replicate (m + 1) z).set i = fun y => ys ++ y :: List.replicate m z := by
  funext y
  subst h
  rw [List.set_append_right _ _ (Nat.le_refl _), Nat.sub_self, List.replicate_succ, List.set_cons_zero]
/-- The loop that fills a made list with what is read from another one. -/
theorem fill {α β : Type} (xs : List α) (g : α → β) (z : β) {F : List β × Int → Option ((List β × Int) ⊕ List β)}
    (h : ∀ (ys : List β) (i : Nat) (x : α), xs[i]? = some x → ys.length = xs.length → F (ys, (i : Int)) = some (.inl (ys.set i (g x), ((i + 1 : Nat) : Int)))) (hend : ∀ ys : List β, F (ys, (xs.length : Int)) = some (.inr ys)) :
    loopO F (List.replicate xs.length z, (0 : Int)) = some (xs.map g) := by
  have hs : ∀ i, i ≤ xs.length → ((xs.take i).map g ++ List.replicate (xs.length - i) z).length = xs.length := by
    intro i hi
    simp only [List.length_append, List.length_map, List.length_take, List.length_replicate]
    omega
  have := loopO_run (F := F) (r := xs.map g) xs.length (fun i => ((xs.take i).map g ++ List.replicate (xs.length - i) z, (i : Int))) (fun i hi => ?_) ?_
  · simpa using this
  · rw [h _ i xs[i] (List.getElem?_eq_getElem hi) (hs i (by omega))]
    congr 3
    rw [show xs.length - i = (xs.length - (i + 1)) + 1 by omega, set_take _ _ _ _ (by simp; omega)]
    have : (xs.take (i + 1)).map g = (xs.take i).map g ++ [g xs[i]] := by rw [List.take_add_one, List.getElem?_eq_getElem hi, List.map_append]; rfl
    rw [this, List.append_assoc]
    rfl
  · have := hend (xs.map g)
    simpa using this

abbrev smL {α : Type} (f : α → Prop) (xs : List α) : Prop := xs.length ≤ 1048576 ∧ ∀ x ∈ xs, f x
theorem lt_t {i n : Nat} (h : i < n) : decide ((i : Int) < (n : Int)) = true := by rw [decide_eq_true_eq]; omega
theorem lt_f (n : Nat) : decide ((n : Int) < (n : Int)) = false := by rw [decide_eq_false_iff_not]; omega
theorem get_lt {α : Type} {xs : List α} {i : Nat} {x : α} (h : xs[i]? = some x) : i < xs.length := (List.getElem?_eq_some_iff.1 h).1
theorem sz_flat {α : Type} {xs : List α} {left : Int} (h0 : 0 ≤ left) (h1 : left ≤ 1048576) (hx : xs.length ≤ 9223372036854775807) :
    ∃ v, (bif decide (w64 (left - (xs.length : Int)) < (0 : Int)) then some (-1 : Int) else some (w64 (left - (xs.length : Int)))) = some v ∧ v ≤ left ∧ (v < 0 ∨ smL (fun _ => True) xs) := by
  rw [w64_id ⟨by omega, by omega⟩]
  cases hb : decide ((left - (xs.length : Int)) < (0 : Int)) with
  | true => exact ⟨_, rfl, by omega, .inl (by decide)⟩
  | false =>
    simp only [decide_eq_false_iff_not] at hb
    exact ⟨_, rfl, by omega, .inr ⟨by omega, fun _ _ => trivial⟩⟩
theorem sz_deep {α : Type} {xs : List α} {F : Int × Int → Option ((Int × Int) ⊕ Int)} {g : α → Int → Option Int} {fit sm : α → Prop} {left : Int}
    (hg : ∀ x l, fit x → 0 ≤ l → l ≤ 1048576 → ∃ v, g x l = some v ∧ v ≤ l ∧ (v < 0 ∨ sm x)) (hF : ∀ (l : Int) (i : Nat) (x : α), xs[i]? = some x → F (l, (i : Int)) = (g x l).bind fun v => bif decide (v < (0 : Int)) then some (.inr (-1)) else some (.inl (v, w64 ((i : Int) + 1))))
    (hend : ∀ l, F (l, (xs.length : Int)) = some (.inr l)) (h0 : 0 ≤ left) (h1 : left ≤ 1048576) (hx : fitsL fit xs) :
    ∃ v, (bif decide (w64 (left - (xs.length : Int)) < (0 : Int)) then some (-1 : Int) else loopO F (w64 (left - (xs.length : Int)), (0 : Int))) = some v ∧ v ≤ left ∧ (v < 0 ∨ smL sm xs) := by
  have hx1 := hx.1
  rw [w64_id ⟨by omega, by omega⟩]
  cases hb : decide ((left - (xs.length : Int)) < (0 : Int)) with
  | true => exact ⟨_, rfl, by omega, .inl (by decide)⟩
  | false =>
    simp only [decide_eq_false_iff_not] at hb
    simp only [cond_false]
    have key : ∀ (k i : Nat) (l : Int), i + k = xs.length → 0 ≤ l → l ≤ left → (∀ j x, j < i → xs[j]? = some x → sm x) → ∃ v, loopO F (l, (i : Int)) = some v ∧ v ≤ left ∧ (v < 0 ∨ ∀ x ∈ xs, sm x) := by
      intro k
      induction k with
      | zero =>
        intro i l hi hl0 hl1 hall
        have : i = xs.length := by omega
        subst this
        refine ⟨l, by rw [loopO_eq, hend]; rfl, hl1, .inr fun x hx => ?_⟩
        obtain ⟨j, hj, e⟩ := List.mem_iff_getElem.1 hx
        exact hall j x hj (by rw [List.getElem?_eq_getElem hj, e])
      | succ k ih =>
        intro i l hi hl0 hl1 hall
        have hlt : i < xs.length := by omega
        have hget := List.getElem?_eq_getElem hlt
        obtain ⟨v, e1, e2, e3⟩ := hg xs[i] l (hx.2 _ (List.getElem_mem hlt)) hl0 (by omega)
        rw [loopO_eq, hF l i _ hget, e1, Option.bind_some]
        cases hv : decide (v < (0 : Int)) with
        | true => exact ⟨-1, rfl, by omega, .inl (by decide)⟩
        | false =>
          simp only [decide_eq_false_iff_not] at hv
          simp only [cond_false, Option.bind_some]
          rw [w64_nat (by omega)]
          refine ih (i + 1) v (by omega) (by omega) (by omega) fun j x hj hjx => ?_
          by_cases hji : j = i
          · subst hji
            rw [hget] at hjx
            simp only [Option.some.injEq] at hjx
            subst hjx
            exact e3.resolve_left hv
          · exact hall j x (by omega) hjx
    obtain ⟨v, e1, e2, e3⟩ := key xs.length 0 (left - xs.length) (by omega) (by omega) (by omega) (fun j x hj => by omega)
    exact ⟨v, e1, e2, e3.imp id fun h => ⟨by omega, h⟩⟩
theorem eq_all {α : Type} {xs : List α} {F : Int → Option (Int ⊕ Bool)} (hl : xs.length ≤ 1048576) (hF : ∀ (i : Nat) (x : α), xs[i]? = some x → F (i : Int) = some (.inl (w64 ((i : Int) + 1)))) (hend : F (xs.length : Int) = some (.inr true)) : loopO F (0 : Int) = some true :=
  loopO_run (F := F) xs.length (fun i => (i : Int)) (fun i hi => by rw [hF i _ (List.getElem?_eq_getElem hi), w64_nat (by omega)]) hend

theorem le_pred {y n : Int} (h : -9223372036854775807 ≤ n ∧ n ≤ 9223372036854775807) : decide (y ≤ w64 (n - 1)) = decide (y < n) := by rw [w64_id ⟨by omega, by omega⟩]; congr 1; apply propext; omega

/-- Two loops whose rounds are the same. -/
theorem loop_same {ρ : Type} {F F' : Int → Option (Int ⊕ ρ)} (n : Nat) (h : ∀ i : Nat, i < n → F (i : Int) = F' (i : Int)) (hn : F (n : Int) = F' (n : Int)) (hs : ∀ i : Nat, i < n → F' (i : Int) = some (.inl ((i + 1 : Nat) : Int)) ∨ ∃ r, F' (i : Int) = some (.inr r)) (hend : ∃ r, F' (n : Int) = some (.inr r)) :
    ∃ r, loopO F (0 : Int) = some r ∧ loopO F' (0 : Int) = some r := by
  have key : ∀ k i : Nat, i + k = n → ∃ r, loopO F (i : Int) = some r ∧ loopO F' (i : Int) = some r := by
    intro k
    induction k with
    | zero =>
      intro i hi
      have : i = n := by omega
      subst this
      obtain ⟨r, h1⟩ := hend
      exact ⟨r, by rw [loopO_eq, hn, h1]; rfl, by rw [loopO_eq, h1]; rfl⟩
    | succ k ih =>
      intro i hi
      rcases hs i (by omega) with h1 | ⟨r, h1⟩
      · obtain ⟨r, h2, h3⟩ := ih (i + 1) (by omega)
        exact ⟨r, by rw [loopO_eq, h i (by omega), h1]; exact h2, by rw [loopO_eq, h1]; exact h3⟩
      · exact ⟨r, by rw [loopO_eq, h i (by omega), h1]; rfl, by rw [loopO_eq, h1]; rfl⟩
  exact key n 0 (by omega)
/-- A loop over a list that looks for one. -/
theorem loop_any {α : Type} {F : Int → Option (Int ⊕ Bool)} (xs : List α) (b : α → Bool) (h : ∀ (i : Nat) (x : α), xs[i]? = some x → F (i : Int) = some (bif b x then .inr true else .inl ((i + 1 : Nat) : Int))) (hend : F (xs.length : Int) = some (.inr false)) : loopO F (0 : Int) = some (xs.any b) := by
  have key : ∀ k i : Nat, i + k = xs.length → loopO F (i : Int) = some ((xs.drop i).any b) := by
    intro k
    induction k with
    | zero =>
      intro i hi
      have : i = xs.length := by omega
      subst this
      rw [loopO_eq, hend, List.drop_length]; rfl
    | succ k ih =>
      intro i hi
      have hlt : i < xs.length := by omega
      rw [loopO_eq, h i _ (List.getElem?_eq_getElem hlt), List.drop_eq_getElem_cons hlt, List.any_cons]
      cases hb : b xs[i] with
      | true => simp
      | false => simp only [cond_false, Option.bind_some, Bool.false_or]; exact ih (i + 1) (by omega)
  have := key xs.length 0 (by omega)
  simpa using this
/-- The same, over the places of a list. -/
theorem loop_anyI {F : Int → Option (Int ⊕ Bool)} (n : Nat) (b : Nat → Bool) (h : ∀ i : Nat, i < n → F (i : Int) = some (bif b i then .inr true else .inl ((i + 1 : Nat) : Int))) (hend : F (n : Int) = some (.inr false)) : loopO F (0 : Int) = some ((List.range n).any b) :=
  loop_any (List.range n) b (fun i x hx => by
    have hlt := (List.getElem?_eq_some_iff.1 hx).1
    rw [List.getElem?_eq_getElem hlt] at hx
    simp only [List.getElem_range, Option.some.injEq] at hx
    subst hx
    exact h i (by simpa using hlt)) (by rw [List.length_range]; exact hend)
theorem rng_any (n : Nat) (p b : Nat → Bool) : (((List.range n).filter p).map fun i : Nat => (i : Int)).any (fun i => b i.toNat) = (List.range n).any fun i => p i && b i := by
  rw [List.any_map, List.any_filter]
  congr 1

end Go.Proofs.Ytblodpbcinkehaa.K
