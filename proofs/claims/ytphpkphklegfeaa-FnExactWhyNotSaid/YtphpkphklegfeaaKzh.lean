/-
  Fresh values: elements that are structs, calls that ask for old locks, results in raw blocks. No conditions.
-/
import Derived.Test.YtphpkphklegfeaaKzg
set_option linter.unusedVariables false
set_option linter.unusedSimpArgs false
namespace Go.Proofs.Ytphpkphklegfeaa.K
section
variable {α β : Type} [GoT α] [GoM α] [GoT β] [GoM β] {lo d n m : Nat} {tr : Heap → List V → List Nat → Prop} {G G' H : Heap} {cs c1 c2 : List V} {F F1 F2 : List Nat} {x : α} {y : β} {v : V} {rs : List Res}
theorem Prom.up (hm : Nat.ble n m = true) (h : Prom lo d n tr G cs F) : Prom lo d m tr G cs F := by
 have hm := Nat.le_of_ble_eq_true hm
 obtain ⟨F', h1, h2, h3⟩ := h
 refine ⟨F', h1, h2, fun X hX k => ?_⟩
 have := h3 X hX (k + (m - n))
 rwa [show k + (m - n) + n = k + m by omega] at this
theorem prom_fl [GoFl α] (x : α) : Prom lo d (GoM.dep α) (fun G => GoM.tr G x) G (GoT.encL 0 x) [] :=
 TrIn.prom ⟨[], .nil, fun _ h => h, GoFl.fl G x⟩ fun b hb => (by cases hb)
theorem Prom.pair (h1 : Prom lo d n (fun G => GoM.tr G x) G c1 F1) (h2 : Prom lo d n (fun G => GoM.tr G y) G c2 F2) (hd : ∀ b ∈ F2, b ∉ F1) : Prom lo d n (fun G => GoM.tr G (x, y)) G (c1 ++ c2) (F1 ++ F2) := by
 obtain ⟨A, a1, a2, a3⟩ := h1
 obtain ⟨B, b1, b2, b3⟩ := h2
 refine ⟨A ++ B, ?_, fun b hb => ?_, fun X hX k => ?_⟩
 ·rw [List.nodup_append]
  exact ⟨a1, b1, fun p hp q hq e => by subst e; exact hd p (b2 p hq) (a2 p hp)⟩
 ·rcases List.mem_append.1 hb with h | h
  ·exact List.mem_append_left _ (a2 b h)
  ·exact List.mem_append_right _ (b2 b h)
 ·refine Leaves.pair (t1 := fun G => GoM.tr G x) (t2 := fun G => GoM.tr G y) (fun h hg => GoM.frame h hg) (a3 X (fun b hb => hX b (List.mem_append_left _ hb)) k) fun Y hY => b3 Y (fun b hb => ?_) k
  rw [hY b fun h => hd b (b2 b hb) (a2 b h)]
  exact hX b (List.mem_append_right _ hb)
theorem Prom.pairL [GoFl α] (x : α) (hn : Nat.ble (GoM.dep α) n = true) (h2 : Prom lo d n (fun G => GoM.tr G y) G c2 F2) : Prom lo d n (fun G => GoM.tr G (x, y)) G (GoT.encL 0 x ++ c2) F2 :=
 ((prom_fl x).up hn).pair h2 fun _ _ h => by cases h
theorem Prom.pairR [GoFl β] (y : β) (hn : Nat.ble (GoM.dep β) n = true) (h1 : Prom lo d n (fun G => GoM.tr G x) G c1 F1) : Prom lo d n (fun G => GoM.tr G (x, y)) G (c1 ++ GoT.encL 0 y) F1 :=
 (h1.pair ((prom_fl y).up hn) fun _ h => by cases h).wide fun b hb => by simpa using hb
theorem Owns.treeMap {p p' : Heap → Prop} (hO : Owns H G (.tree [] F p :: rs)) (h : ∀ G, p G → p' G) : Owns H G (.tree [] F p' :: rs) where
 pre := hO.pre
 len := hO.len
 ok := fun r hr => by
  rcases List.mem_cons.1 hr with rfl | hr
  ·have := hO.ok _ (List.mem_cons_self ..)
   exact ⟨this.1, fun G' hg => h G' (this.2 G' hg)⟩
  ·exact hO.ok r (List.mem_cons_of_mem _ hr)
 apart := List.pairwise_cons.2 (List.pairwise_cons.1 hO.apart)
end
section
variable {α : Type} [GoT α] {H : Heap}
theorem embx_int {c : Cx} (kd : IntKind) (x : Int) : embed c H (.int kd x) = some (.int kd x, H) := by
 cases h : c.hints.keep c.fn with
 | false => exact emb_int h kd x
 | true => unfold embed; rw [h]; rfl
theorem embx_lit {c : Cx} (xs : List α) : embed c H (.lit 0 xs.length ((flatL 0) xs)) = some (.lit 0 xs.length ((flatL 0) xs), H) := by
 cases h : c.hints.keep c.fn with
 | false => exact emb_lit h xs
 | true => unfold embed; rw [h]; rfl
end
section calls
variable {P : Program} {h : Hints} {fk n base : Nat} {lk : Lk} {ops : Array Oper} {s kk : Bool} {d : Nat} {ty : TypeId} {pos : String} {aft : Array Edge} {l : List (Bool × Bool × Oper)} {Q : St → Prop} {T : Nat → V} {G G' H : Heap} {rs : List Res}
variable {α : Type} [GoT α] [GoM α]
end calls
end Go.Proofs.Ytphpkphklegfeaa.K

