/-
  Plain laws on the printed functions' loops and numbers: no program in sight. No conditions.
-/
import Derived.Test.YtibdgkckacmfaaaKr
import Derived.IntWalk
set_option linter.unusedVariables false
set_option linter.unusedSimpArgs false
namespace Go.Proofs.Ytibdgkckacmfaaa.K

theorem w64_id {x : Int} (h : -9223372036854775808 ≤ x ∧ x ≤ 9223372036854775807) : w64 x = x := IntWalk.i64_in x h
theorem w64_nat {i : Nat} (h : i < 9223372036854775807) : w64 ((i : Int) + 1) = ((i + 1 : Nat) : Int) := by rw [w64_id ⟨by omega, by omega⟩]; rfl
theorem getI_nat {α : Type} (xs : List α) (i : Nat) : getI xs (i : Int) = xs[i]? := by
  unfold getI
  rw [if_pos (by omega)]
  rfl
theorem getI_ok {α : Type} {xs : List α} {i : Nat} (h : i < xs.length) : getI xs (i : Int) = some xs[i] := by rw [getI_nat]; exact List.getElem?_eq_getElem h
theorem makeB_ok {by_ n : Nat} (h : n * (by_ + 1) ≤ 70368744177664) : makeB by_ (n : Int) = some n := by
  unfold makeB
  have h1 : (n : Int) * ((by_ : Int) + 1) ≤ 70368744177664 := by
    have e : (n : Int) * ((by_ : Int) + 1) = ((n * (by_ + 1) : Nat) : Int) := by rw [Int.natCast_mul, Int.natCast_add]; rfl
    rw [e]
    omega
  rw [if_pos ⟨Int.natCast_nonneg n, h1⟩]
  rfl

/-- A loop over 0..n: each round goes on or ends with an answer that is right; at n it ends. -/
theorem loopO_ex {σ ρ : Type} {F : σ → Option (σ ⊕ ρ)} (φ : ρ → Prop) (n : Nat) (st : Nat → σ) (h : ∀ i, i < n → F (st i) = some (.inl (st (i + 1))) ∨ ∃ r, F (st i) = some (.inr r) ∧ φ r) (hend : ∃ r, F (st n) = some (.inr r) ∧ φ r) : ∃ r, loopO F (st 0) = some r ∧ φ r := by
  have key : ∀ k i, i + k = n → ∃ r, loopO F (st i) = some r ∧ φ r := by
    intro k
    induction k with
    | zero =>
      intro i hi
      have : i = n := by omega
      subst this
      obtain ⟨r, h1, h2⟩ := hend
      exact ⟨r, by rw [loopO_eq, h1]; rfl, h2⟩
    | succ k ih =>
      intro i hi
      rcases h i (by omega) with h1 | ⟨r, h1, h2⟩
      · obtain ⟨r, h2, h3⟩ := ih (i + 1) (by omega)
        exact ⟨r, by rw [loopO_eq, h1]; exact h2, h3⟩
      · exact ⟨r, by rw [loopO_eq, h1]; rfl, h2⟩
  exact key n 0 (by omega)
/-- A loop over 0..n that never ends early. -/
theorem loopO_run {σ ρ : Type} {F : σ → Option (σ ⊕ ρ)} (n : Nat) (st : Nat → σ) {r : ρ} (h : ∀ i, i < n → F (st i) = some (.inl (st (i + 1)))) (hend : F (st n) = some (.inr r)) : loopO F (st 0) = some r := by
  obtain ⟨r', h1, h2⟩ := loopO_ex (φ := fun r' => r' = r) n st (fun i hi => .inl (h i hi)) ⟨r, hend, rfl⟩
  rw [h1, h2]
theorem set_take {α : Type} (ys : List α) (i : Nat) (z : α) (m : Nat) (h : ys.length = i) : (ys ++ List.replicate (m + 1) z).set i = fun y => ys ++ y :: List.replicate m z := by
  funext y
  subst h
  rw [List.set_append_right _ _ (Nat.le_refl _), Nat.sub_self, List.replicate_succ, List.set_cons_zero]
/-- The loop that fills a made list with what is read from another one. -/
theorem fill {α β : Type} (xs : List α) (g : α → β) (z : β) {F : List β × Int → Option ((List β × Int) ⊕ List β)}
    (h : ∀ (ys : List β) (i : Nat) (x : α), xs[i]? = some x → ys.length = xs.length → F (ys, (i : Int)) = some (.inl (ys.set i (g x), ((i + 1 : Nat) : Int)))) (hend : ∀ ys : List β, F (ys, (xs.length : Int)) = some (.inr ys)) :
    loopO F (List.replicate xs.length z, (0 : Int)) = some (xs.map g) := by
  have hs : ∀ i, i ≤ xs.length → ((xs.take i).map g ++ List.replicate (xs.length - i) z).length = xs.length := by
    intro i hi
    simp only [List.length_append, List.length_map, List.length_take, List.length_replicate]
    omega
  have := loopO_run (F := F) (r := xs.map g) xs.length (fun i => ((xs.take i).map g ++ List.replicate (xs.length - i) z, (i : Int))) (fun i hi => ?_) ?_
  · simpa using this
  · rw [h _ i xs[i] (List.getElem?_eq_getElem hi) (hs i (by omega))]
    congr 3
    rw [show xs.length - i = (xs.length - (i + 1)) + 1 by omega, set_take _ _ _ _ (by simp; omega)]
    have : (xs.take (i + 1)).map g = (xs.take i).map g ++ [g xs[i]] := by rw [List.take_add_one, List.getElem?_eq_getElem hi, List.map_append]; rfl
    rw [this, List.append_assoc]
    rfl
  · have := hend (xs.map g)
    simpa using this

end Go.Proofs.Ytibdgkckacmfaaa.K
