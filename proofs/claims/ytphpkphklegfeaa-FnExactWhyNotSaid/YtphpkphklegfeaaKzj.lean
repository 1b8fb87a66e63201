/-
  Structs that another holds: blocks and mutable lists that come by reference together. No conditions.
-/
import Derived.Test.YtphpkphklegfeaaKzi
set_option linter.unusedVariables false
set_option linter.unusedSimpArgs false
namespace Go.Proofs.Ytphpkphklegfeaa.K
class GoIv (α : Type) [GoT α] [GoM α] : Prop where
 inv : ∀ {G : Heap} {x : α} {cs F}, GoM.tr G x cs F → cs = GoT.encL 0 x ∧ F = []
instance : GoIv Int := ⟨fun h => h⟩
instance : GoIv Bool := ⟨fun h => h⟩
instance : GoIv ByteArray := ⟨fun h => h⟩
instance {α β : Type} [GoT α] [GoM α] [GoIv α] [GoT β] [GoM β] [GoIv β] : GoIv (α × β) := ⟨fun h => by
 obtain ⟨c1, c2, F1, F2, rfl, rfl, h1, h2⟩ := h
 obtain ⟨rfl, rfl⟩ := GoIv.inv h1
 obtain ⟨rfl, rfl⟩ := GoIv.inv h2
 exact ⟨rfl, rfl⟩⟩
section
variable {α β : Type} [GoT α] [GoM α] [GoT β] [GoM β] {G G1 G' H H0 H' : Heap} {rs rs0 rs0' rest : List Res} {S F : List Nat} {x : α} {y : β} {cs : List V}
theorem Owns.splitT (hO : Owns H G (Tree [] F (x, y) cs :: rs)) : ∃ c1 c2 F1 F2, cs = c1 ++ c2 ∧ GoM.tr G x c1 F1 ∧ Owns H G (Tree [] F2 y c2 :: Tree [] F1 x c1 :: rs) := by
 obtain ⟨⟨F', n, hF, c1, c2, F1, F2, rfl, rfl, h1, h2⟩, hb⟩ := hO.tree (j := 0) (F := F) (S := []) rfl
 obtain ⟨n1, n2, n3⟩ := nodup_app n
 have hap := List.pairwise_cons.1 hO.apart
 refine ⟨c1, c2, F1, F2, rfl, h1, hO.pre, hO.len, fun r hr => ?_, ?_⟩
 ·rcases List.mem_cons.1 hr with rfl | hr
  ·exact tree_ok ⟨F2, n2, fun _ h => h, h2⟩ fun b hb' => hb b (hF b (List.mem_append_right _ hb'))
  ·rcases List.mem_cons.1 hr with rfl | hr
   ·exact tree_ok ⟨F1, n1, fun _ h => h, h1⟩ fun b hb' => hb b (hF b (List.mem_append_left _ hb'))
   ·exact hO.ok r (List.mem_cons_of_mem _ hr)
 ·refine List.pairwise_cons.2 ⟨fun r hr c hc hc' => ?_, List.pairwise_cons.2 ⟨fun r hr c hc hc' => ?_, hap.2⟩⟩
  ·rcases List.mem_cons.1 hr with rfl | hr
   ·exact n3 c hc' hc
   ·exact hap.1 r hr c (hF c (List.mem_append_right _ hc)) hc'
  ·exact hap.1 r hr c (hF c (List.mem_append_left _ hc)) hc'
theorem Owns.splitS [GoIv α] (hO : Owns H G (Tree [] F (x, y) cs :: rs)) : ∃ c2 F2, cs = GoT.encL 0 x ++ c2 ∧ Owns H G (Tree [] F2 y c2 :: rs) := by
 obtain ⟨c1, c2, F1, F2, rfl, h1, hO2⟩ := hO.splitT
 obtain ⟨rfl, rfl⟩ := GoIv.inv h1
 exact ⟨c2, F2, rfl, hO2.drop (List.Sublist.cons_cons _ (List.sublist_cons_self _ _))⟩
theorem Owns.splitL {xs : List α} (hO : Owns H G (Tree [] F (xs, y) cs :: rs)) : ∃ v c2 F1 F2, cs = v :: c2 ∧ Owns H G (Tree [] F2 y c2 :: Tree [] F1 xs [v] :: rs) := by
 obtain ⟨c1, c2, F1, F2, rfl, h1, hO2⟩ := hO.splitT
 obtain ⟨v, rfl⟩ := List.length_eq_one_iff.1 (show c1.length = 1 from GoM.len h1)
 exact ⟨v, c2, F1, F2, rfl, hO2⟩
theorem Owns.lastL {xs : List α} (hO : Owns H G (Tree [] F xs cs :: rs)) : ∃ v, cs = [v] := List.length_eq_one_iff.1 (show cs.length = 1 from (tr_cells hO (j := 0) rfl).1)
def Res.toS (S : List Nat) : Res → Res
 | .blk n b => .fblk S n b
 | .fblk _ n b => .fblk S n b
 | .tree _ F p => .tree S F p
 | r => r
def Res.canS : Res → Bool
 | .blk .. | .fblk .. | .tree .. => true
 | _ => false
theorem Res.toS_nums (S : List Nat) (r : Res) : (r.toS S).nums = r.nums := by cases r <;> rfl
theorem toS_ok {r : Res} (h : r.ok H G) (hc : r.canS = true) (hS : ∀ b ∈ r.nums, b ∈ S) : (r.toS S).ok G G := by
 have hlt := fun b hb => Res.nums_lt h (x := b) hb
 cases r with
 | blk n b => exact ⟨fun _ => hS n (by simp [Res.nums]), h.2⟩
 | fblk S' n b => exact ⟨fun _ => hS n (by simp [Res.nums]), h.2⟩
 | tree S' F p => exact ⟨fun b hb => ⟨hlt b hb, fun _ => hS b hb⟩, h.2⟩
 | own v d sz n cells => cases hc
 | fown S' v d d1 sz n cells => cases hc
theorem Owns.lendS (hO : Owns H G (rs0 ++ rest)) (hc : rs0.all Res.canS = true) (hS : ∀ r ∈ rs0, ∀ b ∈ r.nums, b ∈ S) : Owns G G (rs0.map (Res.toS S)) where
 pre := fun _ _ => rfl
 len := Nat.le_refl _
 ok := fun r hr => by
  obtain ⟨r0, h0, rfl⟩ := List.mem_map.1 hr
  exact toS_ok (hO.ok r0 (List.mem_append_left _ h0)) (List.all_eq_true.1 hc r0 h0) (hS r0 h0)
 apart := by
  rw [List.pairwise_map]
  refine (List.pairwise_append.1 hO.apart).1.imp fun h => ?_
  rw [Res.toS_nums, Res.toS_nums]; exact h
end
section calls
variable {P : Program} {h : Hints} {fk n base : Nat} {lk : Lk} {ops : Array Oper} {s kk : Bool} {d : Nat} {ty : TypeId} {pos : String} {aft : Array Edge} {l : List (Bool × Bool × Oper)} {Q : St → Prop} {T : Nat → V} {G G' H : Heap} {rs0 rs0' rest : List Res} {S : List Nat}
end calls
end Go.Proofs.Ytphpkphklegfeaa.K

