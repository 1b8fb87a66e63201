/-
  Closed facts of a row, by a table of who leads to whom. No conditions.
-/
import GoSem.ClaimFn
import Derived.KernelRfl
set_option linter.unusedVariables false
set_option linter.unusedSimpArgs false
namespace Go.Proofs.Ytblodpbcinkehaa.K

def hasN (x : Nat) : List Nat → Bool
  | [] => false
  | y :: l => bif Nat.beq x y then true else hasN x l
theorem hasN_eq (x : Nat) : ∀ l : List Nat, hasN x l = l.contains x
  | [] => rfl
  | y :: l => by
    rw [List.contains_cons, ← hasN_eq x l]
    show (bif Nat.beq x y then true else hasN x l) = _
    have : Nat.beq x y = (x == y) := by rw [Bool.eq_iff_iff, beq_iff_eq, Nat.beq_eq]
    rw [this]
    cases x == y <;> rfl
def closT (tbl : List (List Nat)) : Nat → List Nat → List Nat → List Nat
  | 0, _, seen => seen.reverse
  | _, [], seen => seen.reverse
  | n + 1, f :: todo, seen => bif hasN f seen then closT tbl n todo seen else closT tbl n (tbl.getD f [] ++ todo) (f :: seen)

section
variable {P : Program} {tbl : List (List Nat)}
theorem leads_at (hl : P.funcs.toList.map P.leadsTo = tbl) (g : Nat) : (P.funcs[g]?).elim [] P.leadsTo = tbl.getD g [] := by
  subst hl
  rw [List.getD_eq_getElem?_getD, List.getElem?_map, Array.getElem?_toList]
  cases P.funcs[g]? <;> rfl
theorem closVia (hl : P.funcs.toList.map P.leadsTo = tbl) : ∀ (n : Nat) (todo seen : List Nat), P.closureVia n todo seen = closT tbl n todo seen
  | 0, _, _ => by simp [Program.closureVia, closT]
  | n + 1, [], seen => by simp [Program.closureVia, closT]
  | n + 1, f :: todo, seen => by
    unfold Program.closureVia closT
    rw [hasN_eq, leads_at hl, closVia hl n, closVia hl n]
    cases seen.contains f <;> rfl
theorem closure_eq (hl : P.funcs.toList.map P.leadsTo = tbl) {f : Nat} {L : List Nat} (hc : closT tbl (1 + (tbl.map fun l => l.length + 1).sum) [f] [] = L) : P.closure f = L := by
  unfold Program.closure
  rw [closVia hl, ← hc]
  congr 2
  subst hl
  rw [List.map_map]
  rfl
/-- Where each leads to lower ones alone, none comes to itself. -/
def downT (tbl : List (List Nat)) (rk : List Nat) (L : List Nat) : Bool := L.all fun g => (tbl.getD g []).all fun h => hasN h L && Nat.blt (rk.getD h 0) (rk.getD g 0)
theorem clos_low {rk L : List Nat} (hd : downT tbl rk L = true) (m : Nat) : ∀ (n : Nat) (todo seen : List Nat), (∀ x ∈ todo, x ∈ L ∧ rk.getD x 0 ≤ m) → (∀ x ∈ seen, x ∈ L ∧ rk.getD x 0 ≤ m) → ∀ x ∈ closT tbl n todo seen, x ∈ L ∧ rk.getD x 0 ≤ m
  | 0, todo, seen, _, hs, x, hx => by
    have : closT tbl 0 todo seen = seen.reverse := by simp [closT]
    rw [this] at hx
    exact hs x (List.mem_reverse.1 hx)
  | n + 1, [], seen, _, hs, x, hx => by
    have : closT tbl (n + 1) [] seen = seen.reverse := by simp [closT]
    rw [this] at hx
    exact hs x (List.mem_reverse.1 hx)
  | n + 1, f :: todo, seen, ht, hs, x, hx => by
    unfold closT at hx
    have hf := ht f (List.mem_cons_self ..)
    have ht' : ∀ y ∈ todo, y ∈ L ∧ rk.getD y 0 ≤ m := fun y hy => ht y (List.mem_cons_of_mem _ hy)
    cases hh : hasN f seen with
    | true =>
      rw [hh, cond_true] at hx
      exact clos_low hd m n todo seen ht' hs x hx
    | false =>
      rw [hh, cond_false] at hx
      refine clos_low hd m n _ _ (fun y hy => ?_) (fun y hy => ?_) x hx
      · rcases List.mem_append.1 hy with hy | hy
        · unfold downT at hd
          simp only [List.all_eq_true, Bool.and_eq_true] at hd
          obtain ⟨h1, h2⟩ := hd f hf.1 y hy
          rw [hasN_eq] at h1
          have h3 := Nat.le_of_ble_eq_true h2
          exact ⟨by simpa using h1, by omega⟩
        · exact ht' y hy
      · rcases List.mem_cons.1 hy with rfl | hy
        · exact hf
        · exact hs y hy
theorem no_recursion (hl : P.funcs.toList.map P.leadsTo = tbl) {f : Nat} {L rk : List Nat} (hc : P.closure f = L) (hu : P.unfollowed f = false) (hd : downT tbl rk L = true) : P.recurses f = false := by
  unfold Program.recurses
  rw [hu, Bool.false_or, hc, List.any_eq_false]
  intro g hg hx
  rw [leads_at hl, List.any_eq_true] at hx
  obtain ⟨h, hh, hm⟩ := hx
  unfold downT at hd
  have hd' := hd
  simp only [List.all_eq_true, Bool.and_eq_true] at hd'
  obtain ⟨h1, h2⟩ := hd' g hg h hh
  rw [hasN_eq] at h1
  have h3 := Nat.le_of_ble_eq_true h2
  have hcl : P.closure h = closT tbl (1 + (tbl.map fun l => l.length + 1).sum) [h] [] := closure_eq hl rfl
  rw [hcl] at hm
  have := clos_low (L := L) hd (rk.getD h 0) _ [h] [] (fun x hx => by simp only [List.mem_singleton] at hx; subst hx; exact ⟨by simpa using h1, Nat.le_refl _⟩) (fun x hx => by cases hx) g (by simpa using hm)
  omega
theorem yes_recursion {f : Nat} (hu : P.unfollowed f = true) : P.recurses f = true := by unfold Program.recurses; rw [hu, Bool.true_or]
end
theorem map_cat {α β : Type} {f : α → β} {xs : List α} {a s : Nat} {t u : List β} (h1 : ((xs.drop a).take s).map f = t) (h2 : (xs.drop (a + s)).map f = u) : (xs.drop a).map f = t ++ u := by
  rw [← h1, ← h2, ← List.map_append, ← List.drop_drop, List.take_append_drop]

end Go.Proofs.Ytblodpbcinkehaa.K
