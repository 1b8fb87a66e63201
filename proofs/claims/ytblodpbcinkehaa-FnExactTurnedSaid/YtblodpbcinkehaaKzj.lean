/-
  Structs that another holds: blocks and mutable lists that come by reference together. No conditions.
-/
import Derived.Test.YtblodpbcinkehaaKzi
set_option linter.unusedVariables false
set_option linter.unusedSimpArgs false
namespace Go.Proofs.Ytblodpbcinkehaa.K

/-- Values without lists have no blocks. -/
class GoIv (α : Type) [GoT α] [GoM α] : Prop where
  inv : ∀ {G : Heap} {x : α} {cs F}, GoM.tr G x cs F → cs = GoT.encL 0 x ∧ F = []
instance : GoIv Int := ⟨fun h => h⟩
instance : GoIv Bool := ⟨fun h => h⟩
instance : GoIv ByteArray := ⟨fun h => h⟩
instance {α β : Type} [GoT α] [GoM α] [GoIv α] [GoT β] [GoM β] [GoIv β] : GoIv (α × β) := ⟨fun h => by
  obtain ⟨c1, c2, F1, F2, rfl, rfl, h1, h2⟩ := h
  obtain ⟨rfl, rfl⟩ := GoIv.inv h1
  obtain ⟨rfl, rfl⟩ := GoIv.inv h2
  exact ⟨rfl, rfl⟩⟩

/-! ### A struct's own lists, one by one -/
section
variable {α β : Type} [GoT α] [GoM α] [GoT β] [GoM β] {G G1 G' H H0 H' : Heap} {rs rs0 rs0' rest : List Res} {S F : List Nat} {x : α} {y : β} {cs : List V}
theorem Owns.splitT (hO : Owns H G (Tree [] F (x, y) cs :: rs)) : ∃ c1 c2 F1 F2, cs = c1 ++ c2 ∧ GoM.tr G x c1 F1 ∧ Owns H G (Tree [] F2 y c2 :: Tree [] F1 x c1 :: rs) := by
  obtain ⟨⟨F', n, hF, c1, c2, F1, F2, rfl, rfl, h1, h2⟩, hb⟩ := hO.tree (j := 0) (F := F) (S := []) rfl
  obtain ⟨n1, n2, n3⟩ := nodup_app n
  have hap := List.pairwise_cons.1 hO.apart
  refine ⟨c1, c2, F1, F2, rfl, h1, hO.pre, hO.len, fun r hr => ?_, ?_⟩
  · rcases List.mem_cons.1 hr with rfl | hr
    · exact tree_ok ⟨F2, n2, fun _ h => h, h2⟩ fun b hb' => hb b (hF b (List.mem_append_right _ hb'))
    · rcases List.mem_cons.1 hr with rfl | hr
      · exact tree_ok ⟨F1, n1, fun _ h => h, h1⟩ fun b hb' => hb b (hF b (List.mem_append_left _ hb'))
      · exact hO.ok r (List.mem_cons_of_mem _ hr)
  · refine List.pairwise_cons.2 ⟨fun r hr c hc hc' => ?_, List.pairwise_cons.2 ⟨fun r hr c hc hc' => ?_, hap.2⟩⟩
    · rcases List.mem_cons.1 hr with rfl | hr
      · exact n3 c hc' hc
      · exact hap.1 r hr c (hF c (List.mem_append_right _ hc)) hc'
    · exact hap.1 r hr c (hF c (List.mem_append_left _ hc)) hc'
theorem Owns.splitS [GoIv α] (hO : Owns H G (Tree [] F (x, y) cs :: rs)) : ∃ c2 F2, cs = GoT.encL 0 x ++ c2 ∧ Owns H G (Tree [] F2 y c2 :: rs) := by
  obtain ⟨c1, c2, F1, F2, rfl, h1, hO2⟩ := hO.splitT
  obtain ⟨rfl, rfl⟩ := GoIv.inv h1
  exact ⟨c2, F2, rfl, hO2.drop (List.Sublist.cons_cons _ (List.sublist_cons_self _ _))⟩
theorem Owns.splitL {xs : List α} (hO : Owns H G (Tree [] F (xs, y) cs :: rs)) : ∃ v c2 F1 F2, cs = v :: c2 ∧ Owns H G (Tree [] F2 y c2 :: Tree [] F1 xs [v] :: rs) := by
  obtain ⟨c1, c2, F1, F2, rfl, h1, hO2⟩ := hO.splitT
  obtain ⟨v, rfl⟩ := List.length_eq_one_iff.1 (show c1.length = 1 from GoM.len h1)
  exact ⟨v, c2, F1, F2, rfl, hO2⟩
theorem Owns.lastL {xs : List α} (hO : Owns H G (Tree [] F xs cs :: rs)) : ∃ v, cs = [v] := List.length_eq_one_iff.1 (show cs.length = 1 from (tr_cells hO (j := 0) rfl).1)
theorem Owns.lastS [GoIv α] (hO : Owns H G (Tree [] F x cs :: rs)) : cs = GoT.encL 0 x ∧ Owns H G rs := by
  obtain ⟨⟨F', n, hF, h⟩, hb⟩ := hO.tree (j := 0) (F := F) (S := []) rfl
  exact ⟨(GoIv.inv h).1, hO.drop (List.sublist_cons_self _ _)⟩

/-! ### What a callee gets to write -/
def Res.toS (S : List Nat) : Res → Res
  | .blk n b => .fblk S n b
  | .fblk _ n b => .fblk S n b
  | .tree _ F p => .tree S F p
  | r => r
def Res.canS : Res → Bool
  | .blk .. | .fblk .. | .tree .. => true
  | _ => false
theorem Res.toS_nums (S : List Nat) (r : Res) : (r.toS S).nums = r.nums := by cases r <;> rfl
theorem toS_ok {r : Res} (h : r.ok H G) (hc : r.canS = true) (hS : ∀ b ∈ r.nums, b ∈ S) : (r.toS S).ok G G := by
  have hlt := fun b hb => Res.nums_lt h (x := b) hb
  cases r with
  | blk n b => exact ⟨fun _ => hS n (by simp [Res.nums]), h.2⟩
  | fblk S' n b => exact ⟨fun _ => hS n (by simp [Res.nums]), h.2⟩
  | tree S' F p => exact ⟨fun b hb => ⟨hlt b hb, fun _ => hS b hb⟩, h.2⟩
  | own v d sz n cells => cases hc
  | fown S' v d d1 sz n cells => cases hc
theorem Owns.lendS (hO : Owns H G (rs0 ++ rest)) (hc : rs0.all Res.canS = true) (hS : ∀ r ∈ rs0, ∀ b ∈ r.nums, b ∈ S) : Owns G G (rs0.map (Res.toS S)) where
  pre := fun _ _ => rfl
  len := Nat.le_refl _
  ok := fun r hr => by
    obtain ⟨r0, h0, rfl⟩ := List.mem_map.1 hr
    exact toS_ok (hO.ok r0 (List.mem_append_left _ h0)) (List.all_eq_true.1 hc r0 h0) (hS r0 h0)
  apart := by
    rw [List.pairwise_map]
    refine (List.pairwise_append.1 hO.apart).1.imp fun h => ?_
    rw [Res.toS_nums, Res.toS_nums]; exact h
/-- Own resources in the front have been written. -/
theorem Owns.backS (hO : Owns H G (rs0 ++ rest)) (hc : rs0.all Res.isOwn = true ∨ ∀ r ∈ rs0, ∀ b ∈ r.nums, H.length ≤ b) (hl : G1.length = G.length) (hs : ∀ b, (∀ r ∈ rs0, b ∉ r.nums) → G1[b]? = G[b]?) (hn : rs0'.map Res.nums = rs0.map Res.nums) (hok : ∀ r ∈ rs0', r.ok H G1) : Owns H G1 (rs0' ++ rest) := by
  have hlo : ∀ r ∈ rs0, ∀ b ∈ r.nums, H.length ≤ b := by
    rcases hc with hc | hc
    · exact fun r hr b hb => Res.nums_lo (hO.ok r (List.mem_append_left _ hr)) (List.all_eq_true.1 hc r hr) hb
    · exact hc
  obtain ⟨a1, a2, a3⟩ := List.pairwise_append.1 hO.apart
  have hmem : ∀ r' ∈ rs0', ∃ r ∈ rs0, r.nums = r'.nums := fun r' hr' => by
    have : r'.nums ∈ rs0.map Res.nums := by rw [← hn]; exact List.mem_map_of_mem hr'
    obtain ⟨r, h1, h2⟩ := List.mem_map.1 this
    exact ⟨r, h1, h2⟩
  refine ⟨fun b hb => ?_, by rw [hl]; exact hO.len, fun r hr => ?_, ?_⟩
  · rw [hs b fun r hr h => by have := hlo r hr b h; omega]
    exact hO.pre b hb
  · rcases List.mem_append.1 hr with hr | hr
    · exact hok r hr
    · exact Res.ok_mono (hO.ok r (List.mem_append_right _ hr)) fun x hx => hs x fun r0 h0 hx' => a3 r0 h0 r hr x hx' hx
  · refine List.pairwise_append.2 ⟨?_, a2, fun r' hr' r hr x hx hx' => ?_⟩
    · have h1 : (rs0'.map Res.nums).Pairwise fun a b => ∀ x ∈ a, x ∉ b := by
        rw [hn, List.pairwise_map]; exact a1
      rw [List.pairwise_map] at h1
      exact h1
    · obtain ⟨r0, h0, e⟩ := hmem r' hr'
      exact a3 r0 h0 r hr x (by rw [e]; exact hx) hx'
/-- The end of a call that got them: they lie below. -/
theorem Owns.cutS (hO : Owns H' G rs) (hF : ∀ r ∈ rs, ∀ b ∈ r.nums, b < H0.length) (hl : H'.length = H0.length) : Owns (G.take H0.length) (G.take H0.length) rs where
  pre := fun _ _ => rfl
  len := Nat.le_refl _
  ok := fun r hr => by
    have ht : (G.take H0.length).length = H'.length := by rw [List.length_take, hl]; have := hO.len; omega
    refine Res.ok_len ht (Res.ok_mono (hO.ok r hr) fun x hx => ?_)
    rw [List.getElem?_take, if_pos (hF r hr x hx)]
  apart := hO.apart
theorem finP {P : Program} {h : Hints} {T : Nat → V} {k d : Nat} {lr : List ResultVar} {vs : List V} {v : V} {xx : X} {rs' : List Res} (hO : Owns H G rs) (hFr : Sees H0 H S) (hS : ∀ b ∈ S, b < H0.length) (hrs : rs.take rs'.length = rs') (hn : ∀ r ∈ rs', ∀ b ∈ r.nums, b ∈ S) (h1 : resultsK P G T lr = some vs) (h2 : oneOf vs = v)
    (h3 : resV (h.thaw k) H0.length d depthK (G, []) v = some (v, (G, []))) (hg : h.grow k = false) (hx : xx = .normal ∨ xx = .ret) :
    FinR P h k H0.length d lr (fun v1 H1 => v1 = v ∧ Owns H1 H1 rs' ∧ H1.length = H0.length ∧ ∀ b, b ∉ S → H1[b]? = H0[b]?) xx ⟨T, G⟩ := by
  have hl : H0.length ≤ G.length := by rw [← hFr.1]; exact hO.len
  refine ⟨hx, v, G.take H0.length, ?_, rfl, (hO.drop (rs' := rs') (by rw [← hrs]; exact List.take_sublist _ _)).cutS (fun r hr b hb => hS b (hn r hr b hb)) hFr.1, by rw [List.length_take]; omega, fun b hb => ?_⟩
  · simp only [h1, Option.bind_some, h2, leaveK, hg, Bool.false_eq_true, if_false, h3, Option.map_some, List.append_nil]
  · rw [List.getElem?_take]
    split
    · rename_i hlt
      rw [hO.pre b (by rw [hFr.1]; exact hlt)]
      exact hFr.2 b hb
    · rename_i hge
      rw [List.getElem?_eq_none (by omega)]
end
section calls
variable {P : Program} {h : Hints} {fk n base : Nat} {lk : Lk} {ops : Array Oper} {s kk : Bool} {d : Nat} {ty : TypeId} {pos : String} {aft : Array Edge} {l : List (Bool × Bool × Oper)} {Q : St → Prop} {T : Nat → V} {G G' H : Heap} {rs0 rs0' rest : List Res} {S : List Nat}
theorem toS_back {r : Res} {H1 : Heap} (h : (r.toS S).ok H1 H1) (hc : r.canS = true) (hlo : ∀ b ∈ r.nums, H.length ≤ b) : r.ok H H1 := by
  cases r with
  | blk n b => exact ⟨hlo n (by simp [Res.nums]), h.2⟩
  | fblk S' n b => exact ⟨fun hlt => by have := hlo n (by simp [Res.nums]); omega, h.2⟩
  | tree S' F p => exact ⟨fun b hb => ⟨(h.1 b hb).1, fun hlt => by have := hlo b hb; omega⟩, h.2⟩
  | own v d sz n cells => cases hc
  | fown S' v d d1 sz n cells => cases hc
/-- A call that writes into own blocks and lists, which stand in front. -/
theorem pCP {f : Operand} {args : Array Operand} {ats : Array TypeId} {g : FuncId} {caps vs vs' : List V} (hO : Owns H G (rs0 ++ rest)) (hlo : LkOk lk H.length) (hS : ∀ r ∈ rs0, ∀ b ∈ r.nums, b ∈ S) (hS' : ∀ b ∈ S, ∃ r ∈ rs0, b ∈ r.nums) (hown : ∀ r ∈ rs0, ∀ b ∈ r.nums, H.length ≤ b)
    (hr : (∀ b ∈ S, b < G.length) → (∀ b ∈ S, unlocked (lk ++ [[]]) b = true) → Owns G G (rs0.map (Res.toS S)) → ∃ v H1, runL P h g vs' G (lk ++ [[]]) = some (v, H1) ∧ v = .tup [] ∧ Owns H1 H1 (rs0'.map (Res.toS S)) ∧ H1.length = G.length ∧ ∀ b, b ∉ S → H1[b]? = G[b]?)
    (k : ∀ G', Owns H G' (rs0' ++ rest) → wpR (cxL P h fk n base lk) ops l ⟨T, G'⟩ Q)
    (hc : rs0.all Res.canS = true := by rfl) (hc' : rs0'.all Res.canS = true := by rfl) (hn : rs0'.map Res.nums = rs0.map Res.nums := by rfl)
    (h1 : ev T f = some (.fn g caps) := by rfl) (h2 : evL T args.toList = some vs := by rfl) (h3 : lendArgs ((cxL P h fk n base lk).care s false) (h.modes g) G (vs ++ caps) = some (vs', [], G) := by rfl) (hg : h.grow g = false := by rfl) :
    wpR (cxL P h fk n base lk) ops ((s, false, ⟨none, .call ⟨.value f, args, ats⟩, ty, pos, aft, none⟩) :: l) ⟨T, G⟩ Q := by
  have hlt : ∀ b ∈ S, b < G.length := fun b hb => by
    obtain ⟨r, hr, hb'⟩ := hS' b hb
    exact Res.nums_lt (hO.ok r (List.mem_append_left _ hr)) hb'
  have hun : ∀ b ∈ S, unlocked (lk ++ [[]]) b = true := fun b hb => by
    obtain ⟨r, hr, hb'⟩ := hS' b hb
    exact unlocked_nil (hlo.freeO (hown r hr b hb'))
  obtain ⟨v, H1, hv, rfl, ho, hl, hs⟩ := hr hlt hun (hO.lendS hc hS)
  refine pV0 (call_ref hv h1 h2 h3 hg) (k H1 (hO.backS (.inr hown) hl (fun b hb => hs b fun h => by obtain ⟨r, hr, hb'⟩ := hS' b h; exact hb r hr hb') hn fun r hr => ?_))
  refine toS_back (S := S) (ho.ok _ (List.mem_map_of_mem hr)) (List.all_eq_true.1 hc' r hr) fun b hb => ?_
  have : r.nums ∈ rs0.map Res.nums := by rw [← hn]; exact List.mem_map_of_mem hr
  obtain ⟨r0, h0, e⟩ := List.mem_map.1 this
  exact hown r0 h0 b (by rw [e]; exact hb)
/-- The same, where its result is named. -/
theorem pCPd {f : Operand} {args : Array Operand} {ats : Array TypeId} {g : FuncId} {caps vs vs' : List V} (hO : Owns H G (rs0 ++ rest)) (hlo : LkOk lk H.length) (hS : ∀ r ∈ rs0, ∀ b ∈ r.nums, b ∈ S) (hS' : ∀ b ∈ S, ∃ r ∈ rs0, b ∈ r.nums) (hown : ∀ r ∈ rs0, ∀ b ∈ r.nums, H.length ≤ b)
    (hr : (∀ b ∈ S, b < G.length) → (∀ b ∈ S, unlocked (lk ++ [[]]) b = true) → Owns G G (rs0.map (Res.toS S)) → ∃ v H1, runL P h g vs' G (lk ++ [[]]) = some (v, H1) ∧ v = .tup [] ∧ Owns H1 H1 (rs0'.map (Res.toS S)) ∧ H1.length = G.length ∧ ∀ b, b ∉ S → H1[b]? = G[b]?)
    (k : ∀ G', Owns H G' (rs0' ++ rest) → wpR (cxL P h fk n base lk) ops l ⟨upd T d (.tup []), G'⟩ Q)
    (hc : rs0.all Res.canS = true := by rfl) (hc' : rs0'.all Res.canS = true := by rfl) (hn : rs0'.map Res.nums = rs0.map Res.nums := by rfl)
    (h1 : ev T f = some (.fn g caps) := by rfl) (h2 : evL T args.toList = some vs := by rfl) (h3 : lendArgs ((cxL P h fk n base lk).care s false) (h.modes g) G (vs ++ caps) = some (vs', [], G) := by rfl) (hg : h.grow g = false := by rfl) (hd : Nat.blt d n = true := by rfl) :
    wpR (cxL P h fk n base lk) ops ((s, false, ⟨some d, .call ⟨.value f, args, ats⟩, ty, pos, aft, none⟩) :: l) ⟨T, G⟩ Q := by
  have hlt : ∀ b ∈ S, b < G.length := fun b hb => by
    obtain ⟨r, hr, hb'⟩ := hS' b hb
    exact Res.nums_lt (hO.ok r (List.mem_append_left _ hr)) hb'
  have hun : ∀ b ∈ S, unlocked (lk ++ [[]]) b = true := fun b hb => by
    obtain ⟨r, hr, hb'⟩ := hS' b hb
    exact unlocked_nil (hlo.freeO (hown r hr b hb'))
  obtain ⟨v, H1, hv, rfl, ho, hl, hs⟩ := hr hlt hun (hO.lendS hc hS)
  refine pV (call_ref hv h1 h2 h3 hg) hd (k H1 (hO.backS (.inr hown) hl (fun b hb => hs b fun h => by obtain ⟨r, hr, hb'⟩ := hS' b h; exact hb r hr hb') hn fun r hr => ?_))
  refine toS_back (S := S) (ho.ok _ (List.mem_map_of_mem hr)) (List.all_eq_true.1 hc' r hr) fun b hb => ?_
  have : r.nums ∈ rs0.map Res.nums := by rw [← hn]; exact List.mem_map_of_mem hr
  obtain ⟨r0, h0, e⟩ := List.mem_map.1 this
  exact hown r0 h0 b (by rw [e]; exact hb)
end calls

end Go.Proofs.Ytblodpbcinkehaa.K
