/-
  Plain lemmas on functions that write marks and look for them again. No conditions.
-/
import Derived.Test.YtblodpbcinkehaaKzd
set_option linter.unusedVariables false
set_option linter.unusedSimpArgs false
namespace Go.Proofs.Ytblodpbcinkehaa.K

/-- How many marks a list gets; how it is marked from k on. -/
def csum {α : Type} (c : α → Nat) : List α → Nat
  | [] => 0
  | x :: xs => c x + csum c xs
def markAll {α : Type} (f : α → Int → α) (c : α → Nat) : List α → Int → List α
  | [], _ => []
  | x :: xs, k => f x k :: markAll f c xs (k + c x)
/-- Marks of numbers and bools. -/
def mkI : Int → Int → Int := fun _ k => k
def mkB : Bool → Int → Bool := fun _ k => (Int.tmod k 3 == 0)
theorem csum_const {α : Type} (m : Nat) : ∀ xs : List α, csum (fun _ => m) xs = m * xs.length
  | [] => rfl
  | x :: xs => by rw [csum, csum_const m xs, List.length_cons, Nat.mul_succ, Nat.add_comm]
theorem csum_le {α : Type} {c : α → Nat} {m : Nat} : ∀ {xs : List α}, (∀ x ∈ xs, c x ≤ m) → csum c xs ≤ m * xs.length
  | [], _ => Nat.zero_le _
  | x :: xs, h => by
    have h1 := h x (List.mem_cons_self ..)
    have h2 := csum_le (xs := xs) fun y hy => h y (List.mem_cons_of_mem _ hy)
    rw [csum, List.length_cons, Nat.mul_succ]; omega
theorem markAll_len {α : Type} (f : α → Int → α) (c : α → Nat) : ∀ (xs : List α) (k : Int), (markAll f c xs k).length = xs.length
  | [], _ => rfl
  | x :: xs, k => by rw [markAll, List.length_cons, markAll_len f c xs, List.length_cons]
theorem mark_loop {α σ : Type} {F : σ → Option (σ ⊕ (List α × Int))} (st : List α → Int → Int → σ) (f : α → Int → α) (c : α → Nat) (p : α → Prop) (n : Nat)
    (hstep : ∀ (pre : List α) x post (k : Int), p x → 0 ≤ k → k + c x ≤ 4611686018427387904 → (pre ++ x :: post).length = n → F (st (pre ++ x :: post) k (pre.length : Int)) = some (.inl (st (pre ++ f x k :: post) (k + c x) ((pre.length + 1 : Nat) : Int))))
    (hend : ∀ (xs : List α) (k : Int), xs.length = n → F (st xs k (n : Int)) = some (.inr (xs, k))) :
    ∀ (xs pre : List α) (k : Int), (∀ x ∈ xs, p x) → 0 ≤ k → k + csum c xs ≤ 4611686018427387904 → (pre ++ xs).length = n → loopO F (st (pre ++ xs) k (pre.length : Int)) = some (pre ++ markAll f c xs k, k + csum c xs)
  | [], pre, k, hp, h0, hb, hn => by
    rw [loopO_eq]
    have e : pre.length = n := by simpa using hn
    rw [e, hend _ _ hn]
    simp [markAll, csum]
  | x :: xs, pre, k, hp, h0, hb, hn => by
    rw [csum] at hb
    rw [loopO_eq, hstep pre x xs k (hp x (List.mem_cons_self ..)) h0 (by omega) hn]
    have e : pre ++ f x k :: xs = (pre ++ [f x k]) ++ xs := by simp
    have := mark_loop st f c p n hstep hend xs (pre ++ [f x k]) (k + c x) (fun y hy => hp y (List.mem_cons_of_mem _ hy)) (by omega) (by omega) (by rw [← e]; simpa using hn)
    rw [List.length_append, List.length_singleton, ← e] at this
    simp only [Option.bind_some]
    rw [this, markAll, csum]
    simp only [List.append_assoc, List.cons_append, List.nil_append, Option.some.injEq, Prod.mk.injEq, true_and]
    omega
theorem held_loop {α σ : Type} {F : σ → Option (σ ⊕ Int)} (st : Int → Int → σ) (f : α → Int → α) (c : α → Nat) (p : α → Prop) (ys : List α)
    (hstep : ∀ (i : Nat) x (k : Int), p x → 0 ≤ k → k + c x ≤ 4611686018427387904 → ys[i]? = some (f x k) → F (st k (i : Int)) = some (.inl (st (k + c x) ((i + 1 : Nat) : Int))))
    (hend : ∀ k : Int, F (st k (ys.length : Int)) = some (.inr k)) :
    ∀ (xs pre : List α) (k : Int), ys = pre ++ markAll f c xs k → (∀ x ∈ xs, p x) → 0 ≤ k → k + csum c xs ≤ 4611686018427387904 → loopO F (st k (pre.length : Int)) = some (k + csum c xs)
  | [], pre, k, hy, hp, h0, hb => by
    rw [loopO_eq]
    have e : pre.length = ys.length := by rw [hy]; simp [markAll]
    rw [e, hend]
    simp [csum]
  | x :: xs, pre, k, hy, hp, h0, hb => by
    rw [csum] at hb
    rw [loopO_eq, hstep pre.length x k (hp x (List.mem_cons_self ..)) h0 (by omega) (by rw [hy, markAll, List.getElem?_append_right (Nat.le_refl _), Nat.sub_self]; rfl)]
    have := held_loop st f c p ys hstep hend xs (pre ++ [f x k]) (k + c x) (by rw [hy, markAll]; simp) (fun y hy => hp y (List.mem_cons_of_mem _ hy)) (by omega) (by omega)
    rw [List.length_append, List.length_singleton] at this
    simp only [Option.bind_some]
    rw [this, csum]
    simp only [Option.some.injEq]
    omega
theorem ltz {a : Int} (h : 0 ≤ a) : decide (a < 0) = false := by rw [decide_eq_false_iff_not]; omega
theorem lt_mid {α : Type} (pre : List α) (x : α) (post : List α) : decide ((pre.length : Int) < ((pre ++ x :: post).length : Int)) = true := by rw [decide_eq_true_eq, List.length_append, List.length_cons]; omega
theorem len_mid {α : Type} {pre post : List α} {x : α} {n : Nat} (h : (pre ++ x :: post).length = n) : pre.length < n := by rw [← h, List.length_append, List.length_cons]; omega
theorem csum_bd {α : Type} {c : α → Nat} {p : α → Prop} {m : Nat} (hc : ∀ x, p x → c x ≤ m) {xs : List α} (hl : xs.length ≤ 1048576) (hp : ∀ x ∈ xs, p x) : csum c xs ≤ m * 1048576 :=
  Nat.le_trans (csum_le fun x hx => hc x (hp x hx)) (Nat.mul_le_mul_left _ hl)
theorem getI_mid {α : Type} (pre : List α) (x : α) (post : List α) : getI (pre ++ x :: post) (pre.length : Int) = some x := by
  rw [getI_nat, List.getElem?_append_right (Nat.le_refl _), Nat.sub_self]; rfl
theorem set_mid {α : Type} (pre : List α) (x y : α) (post : List α) : (pre ++ x :: post).set ((pre.length : Nat) : Int).toNat y = pre ++ y :: post := by
  rw [Int.toNat_natCast, List.set_append_right _ _ (Nat.le_refl _), Nat.sub_self]; rfl
theorem w64_up {k : Int} (h0 : 0 ≤ k) (h : k ≤ 4611686018427387904) : w64 (k + 1) = k + 1 := w64_id ⟨by omega, by omega⟩
theorem w64_k {k : Int} (h0 : 0 ≤ k) (h : k ≤ 4611686018427387905) : w64 k = k := w64_id ⟨by omega, by omega⟩

end Go.Proofs.Ytblodpbcinkehaa.K
