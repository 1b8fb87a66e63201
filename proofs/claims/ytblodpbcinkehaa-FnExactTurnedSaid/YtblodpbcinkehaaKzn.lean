/-
  Guarded runs of operations whose temps alone may change: what is known of the others stays. No conditions.
-/
import Derived.Test.YtblodpbcinkehaaKzm
set_option linter.unusedVariables false
set_option linter.unusedSimpArgs false
namespace Go.Proofs.Ytblodpbcinkehaa.K

def among (i : Nat) : List Nat → Bool
  | [] => false
  | d :: l => bif Nat.beq i d then true else among i l
/-- Outside a list the temps are as they were. -/
def Ag (ds : List Nat) (T T1 : Nat → V) : Prop := ∀ i, among i ds = false → T1 i = T i
def kp (ds : List Nat) (T J : Nat → V) : Nat → V := fun i => bif among i ds then J i else T i
section
variable {ds ds2 : List Nat} {T T1 J : Nat → V} {d : Nat} {v : V}
theorem Ag.same : Ag ds T T := fun _ _ => rfl
theorem Ag.up (h : Ag ds T T1) (hd : among d ds = true) : Ag ds T (upd T1 d v) := fun i hi => by
  unfold upd
  split
  · rename_i e; subst e; rw [hd] at hi; cases hi
  · exact h i hi
theorem Ag.kp (h : Ag ds T T1) (hs : (ds2.all fun i => among i ds) = true) : Ag ds T (kp ds2 T1 J) := fun i hi => by
  have : among i ds2 = false := by
    cases hm : among i ds2 with
    | false => rfl
    | true =>
      have key : ∀ l : List Nat, among i l = true → (l.all fun i => among i ds) = true → among i ds = true := by
        intro l
        induction l with
        | nil => intro h; cases h
        | cons x l ih =>
          intro h1 h2
          rw [List.all_cons, Bool.and_eq_true] at h2
          unfold among at h1
          cases hb : Nat.beq i x with
          | true => rw [Nat.eq_of_beq_eq_true hb]; exact h2.1
          | false => rw [hb] at h1; exact ih h1 h2.2
      rw [key ds2 hm hs] at hi
      cases hi
  show (bif among i ds2 then J i else T1 i) = T i
  rw [this]
  exact h i hi
theorem kp_of (h : Ag ds T T1) : T1 = K.kp ds T T1 := funext fun i => by
  show T1 i = bif among i ds then T1 i else T i
  cases hm : among i ds with
  | false => exact h i hm
  | true => rfl
end
section
variable {P : Program} {h : Hints} {fk n base : Nat} {lk : Lk} {c : Cx} {ops : Array Oper} {T T1 : Nat → V} {G : Heap} {Q : St → Prop} {d : Nat} {v : V} {ds : List Nat}
theorem wpR_kp {l1 l2 : List (Bool × Bool × Oper)} (ds : List Nat) (d : Nat) (v : V) (h1 : wpR c ops l1 ⟨T, G⟩ (fun S' => ∃ T1, Ag ds T T1 ∧ T1 d = v ∧ S' = ⟨T1, G⟩)) (h2 : ∀ J, wpR c ops l2 ⟨upd (kp ds T J) d v, G⟩ Q) : wpR c ops (l1 ++ l2) ⟨T, G⟩ Q := by
  refine wpR_mid _ h1 fun S' hS => ?_
  obtain ⟨T1, a, hd, rfl⟩ := hS
  have := h2 T1
  rwa [← kp_of a, upd_self hd] at this
theorem ek {T1 : Nat → V} (hd : T1 d = v := by rfl) (ha : Ag ds T T1 := by repeat (first | refine Ag.up ?_ (by rfl) | refine Ag.kp ?_ (by rfl) | exact Ag.same)) : ∃ T2, Ag ds T T2 ∧ T2 d = v ∧ (⟨T1, G⟩ : St) = ⟨T2, G⟩ := ⟨T1, ha, hd, rfl⟩
end
end Go.Proofs.Ytblodpbcinkehaa.K
