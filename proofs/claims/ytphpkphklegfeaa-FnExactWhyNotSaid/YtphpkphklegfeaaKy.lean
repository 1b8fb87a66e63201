/-
  Closed facts of a row, by a table of who leads to whom. No conditions.
-/
import GoSem.ClaimFn
import Derived.KernelRfl
set_option linter.unusedVariables false
set_option linter.unusedSimpArgs false
namespace Go.Proofs.Ytphpkphklegfeaa.K
def hasN (x : Nat) : List Nat → Bool
 | [] => false
 | y :: l => bif Nat.beq x y then true else hasN x l
theorem hasN_eq (x : Nat) : ∀ l : List Nat, hasN x l = l.contains x
 | [] => rfl
 | y :: l => by
  rw [List.contains_cons, ← hasN_eq x l]
  show (bif Nat.beq x y then true else hasN x l) = _
  have : Nat.beq x y = (x == y) := by rw [Bool.eq_iff_iff, beq_iff_eq, Nat.beq_eq]
  rw [this]
  cases x == y <;> rfl
def closT (tbl : List (List Nat)) : Nat → List Nat → List Nat → List Nat
 | 0, _, seen => seen.reverse
 | _, [], seen => seen.reverse
 | n + 1, f :: todo, seen => bif hasN f seen then closT tbl n todo seen else closT tbl n (tbl.getD f [] ++ todo) (f :: seen)
section
variable {P : Program} {tbl : List (List Nat)}
theorem leads_at (hl : P.funcs.toList.map P.leadsTo = tbl) (g : Nat) : (P.funcs[g]?).elim [] P.leadsTo = tbl.getD g [] := by
 subst hl
 rw [List.getD_eq_getElem?_getD, List.getElem?_map, Array.getElem?_toList]
 cases P.funcs[g]? <;> rfl
theorem closVia (hl : P.funcs.toList.map P.leadsTo = tbl) : ∀ (n : Nat) (todo seen : List Nat), P.closureVia n todo seen = closT tbl n todo seen
 | 0, _, _ => by simp [Program.closureVia, closT]
 | n + 1, [], seen => by simp [Program.closureVia, closT]
 | n + 1, f :: todo, seen => by
  unfold Program.closureVia closT
  rw [hasN_eq, leads_at hl, closVia hl n, closVia hl n]
  cases seen.contains f <;> rfl
theorem closure_eq (hl : P.funcs.toList.map P.leadsTo = tbl) {f : Nat} {L : List Nat} (hc : closT tbl (1 + (tbl.map fun l => l.length + 1).sum) [f] [] = L) : P.closure f = L := by
 unfold Program.closure
 rw [closVia hl, ← hc]
 congr 2
 subst hl
 rw [List.map_map]
 rfl
theorem yes_recursion {f : Nat} (hu : P.unfollowed f = true) : P.recurses f = true := by unfold Program.recurses; rw [hu, Bool.true_or]
end
theorem map_cat {α β : Type} {f : α → β} {xs : List α} {a s : Nat} {t u : List β} (h1 : ((xs.drop a).take s).map f = t) (h2 : (xs.drop (a + s)).map f = u) : (xs.drop a).map f = t ++ u := by
 rw [← h1, ← h2, ← List.map_append, ← List.drop_drop, List.take_append_drop]
end Go.Proofs.Ytphpkphklegfeaa.K

