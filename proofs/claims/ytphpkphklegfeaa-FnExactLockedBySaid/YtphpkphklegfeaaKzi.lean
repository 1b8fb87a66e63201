/-
  Lists of a call's own that were made or appended to, which it is not known; scalars out of mutable lists. No conditions.
-/
import Derived.Test.YtphpkphklegfeaaKzh
set_option linter.unusedVariables false
set_option linter.unusedSimpArgs false
namespace Go.Proofs.Ytphpkphklegfeaa.K
section
variable {α : Type} [GoT α] {G G' H : Heap} {F : List Nat} {xs : List α} {v : V} {rs : List Res}
def AnIn (lo d : Nat) (G : Heap) (xs : List α) (v : V) (F : List Nat) : Prop := (v = .tl xs.length ((flatL 0) xs)) ∨ (∃ b, v = .snap b xs.length ((flatL 0) xs) ∧ b ∈ F ∧ G[b]? = some (.bld d xs.length (GoT.sz α))) ∨ ∃ b, v = .sl b 0 xs.length ∧ b ∈ F ∧ G[b]? = some (.cells (GoT.sz α) ((flatL 0) xs))
theorem AnIn.mono {lo d : Nat} (h : AnIn lo d G xs v F) (hg : ∀ b ∈ F, G'[b]? = G[b]?) : AnIn lo d G' xs v F := by
 rcases h with h | ⟨b, h1, h2, h3⟩ | ⟨b, h1, h2, h3⟩
 ·exact .inl h
 ·exact .inr (.inl ⟨b, h1, h2, by rw [hg b h2]; exact h3⟩)
 ·exact .inr (.inr ⟨b, h1, h2, by rw [hg b h2]; exact h3⟩)
end
section steps
variable {P : Program} {h : Hints} {fk n base : Nat} {lk : Lk} {c : Cx} {ops : Array Oper} {s kk : Bool} {d : Nat} {ty : TypeId} {pos : String} {aft : Array Edge} {l : List (Bool × Bool × Oper)} {Q : St → Prop} {T : Nat → V} {G G' H H0 : Heap} {rs : List Res} {op : Op} {S F : List Nat}
variable {α : Type} [GoT α]
end steps
end Go.Proofs.Ytphpkphklegfeaa.K

