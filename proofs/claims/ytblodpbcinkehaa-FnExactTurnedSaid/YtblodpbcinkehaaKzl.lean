/-
  Structs by reference that come to hold new blocks: growing calls, places below places. No conditions.
-/
import Derived.Test.YtblodpbcinkehaaKzk
set_option linter.unusedVariables false
set_option linter.unusedSimpArgs false
namespace Go.Proofs.Ytblodpbcinkehaa.K

/-- Mutable values bear nothing that was lent. -/
class GoG (α : Type) [GoT α] [GoM α] : Prop where
  cl : ∀ {G : Heap} {x : α} {cs F}, GoM.tr G x cs F → ∀ d, cs.all (cleanG d) = true ∧ ∀ b ∈ F, ∃ sz cells, G[b]? = some (.cells sz cells) ∧ cells.all (cleanG d) = true
instance : GoG Int := ⟨fun h d => by obtain ⟨rfl, rfl⟩ := h; exact ⟨rfl, fun b hb => by cases hb⟩⟩
instance : GoG Bool := ⟨fun h d => by obtain ⟨rfl, rfl⟩ := h; exact ⟨rfl, fun b hb => by cases hb⟩⟩
instance : GoG ByteArray := ⟨fun h d => by obtain ⟨rfl, rfl⟩ := h; exact ⟨rfl, fun b hb => by cases hb⟩⟩
section
variable {α β : Type} [GoT α] [GoM α] [GoG α] [GoT β] [GoM β] [GoG β] {G : Heap}
instance : GoG (α × β) := ⟨fun h d => by
  obtain ⟨c1, c2, F1, F2, rfl, rfl, h1, h2⟩ := h
  refine ⟨by rw [List.all_append, (GoG.cl h1 d).1, (GoG.cl h2 d).1]; rfl, fun b hb => ?_⟩
  rcases List.mem_append.1 hb with hb | hb
  · exact (GoG.cl h1 d).2 b hb
  · exact (GoG.cl h2 d).2 b hb⟩
theorem trL_clG (d : Nat) : ∀ {xs : List α} {cs F}, trL GoM.tr G xs cs F → cs.all (cleanG d) = true ∧ ∀ b ∈ F, ∃ sz cells, G[b]? = some (.cells sz cells) ∧ cells.all (cleanG d) = true
  | [], cs, F, h => by obtain ⟨rfl, rfl⟩ := h; exact ⟨rfl, fun b hb => by cases hb⟩
  | x :: xs, cs, F, h => by
    obtain ⟨c1, c2, F1, F2, rfl, rfl, h1, h2⟩ := h
    have h3 := trL_clG d h2
    refine ⟨by rw [List.all_append, (GoG.cl h1 d).1, h3.1]; rfl, fun b hb => ?_⟩
    rcases List.mem_append.1 hb with hb | hb
    · exact (GoG.cl h1 d).2 b hb
    · exact h3.2 b hb
instance : GoG (List α) := ⟨fun h d => by
  rcases h with ⟨rfl, rfl, rfl⟩ | ⟨b, cells, F', rfl, h1, h2, rfl⟩
  · exact ⟨rfl, fun b hb => by cases hb⟩
  · have h3 := trL_clG d h2
    refine ⟨rfl, fun c hc => ?_⟩
    rcases List.mem_cons.1 hc with rfl | hc
    · exact ⟨_, _, h1, h3.1⟩
    · exact h3.2 c hc⟩
end
theorem cleanGL_all {d : Nat} : ∀ {cs : List V}, cs.all (cleanG d) = true → cleanG.cleanGL d cs = true
  | [], _ => rfl
  | c :: cs, h => by
    rw [List.all_cons, Bool.and_eq_true] at h
    simp only [cleanG.cleanGL, h.1, cleanGL_all h.2, Bool.and_self]

/-! ### The end of a growing call -/
def relG (base d : Nat) (G : Heap) : Heap := G.take base ++ (G.drop base).map (relevK d)
def RelR (base d : Nat) (r : Res) : Prop := ∀ H G : Heap, H.length = base → H.length ≤ G.length → r.ok H G → r.ok H (relG base d G)
def RelL (base d : Nat) (rs : List Res) : Prop := ∀ r ∈ rs, RelR base d r
theorem relN {base d : Nat} : RelL base d [] := fun r hr => by cases hr
theorem relC {base d : Nat} {r : Res} {rs : List Res} (h : RelR base d r) (hs : RelL base d rs) : RelL base d (r :: rs) := fun q hq => by
  rcases List.mem_cons.1 hq with rfl | hq
  · exact h
  · exact hs q hq
theorem relB {base d b sz : Nat} {S : List Nat} {cs : List V} (hb : b < base) : RelR base d (.fblk S b (.cells sz cs)) := fun H G hl hlg h => by
  refine ⟨h.1, ?_⟩
  subst hl
  unfold relG
  rw [leave_get hlg, if_pos hb]; exact h.2
theorem relT {α : Type} [GoT α] [GoM α] [GoG α] {base d : Nat} {S F : List Nat} {x : α} {cs : List V} : RelR base d (Tree S F x cs) := fun H G hl hlg h => by
  obtain ⟨hb, hp⟩ := h
  obtain ⟨F', h1, h2, h3⟩ := hp G fun _ _ => rfl
  subst hl
  have hlen : (relG H.length d G).length = G.length := by unfold relG; rw [List.length_append, List.length_take, List.length_map, List.length_drop]; omega
  refine tree_ok ⟨F', h1, h2, GoM.frame h3 fun b hb' => ?_⟩ fun b hb' => by rw [hlen]; exact hb b hb'
  unfold relG
  rw [leave_get hlg]
  split
  · rfl
  · obtain ⟨sz, cells, e1, e2⟩ := (GoG.cl h3 d).2 b hb'
    rw [e1, Option.map_some, relevK, if_pos e2]
theorem finG {P : Program} {h : Hints} {T : Nat → V} {G H0 Hm : Heap} {S : List Nat} {k d : Nat} {lr : List ResultVar} {vs : List V} {v : V} {xx : X} {ι : Type} {rsF : ι → List Res} (Fs : ι) (hO : Owns Hm G (rsF Fs)) (hFr : Sees H0 Hm S) (hrel : RelL H0.length d (rsF Fs)) (h1 : resultsK P G T lr = some vs) (h2 : oneOf vs = v) (hc : cleanG d v = true) (hg : h.grow k = true) (hx : xx = .normal ∨ xx = .ret) :
    FinR P h k H0.length d lr (fun v1 H1 => v1 = v ∧ ∃ (Fs : ι) (Hm : Heap), Sees H0 Hm S ∧ Owns Hm H1 (rsF Fs)) xx ⟨T, G⟩ := by
  have hl : Hm.length = H0.length := hFr.1
  have hl2 := hO.len
  have hlen : (relG H0.length d G).length = G.length := by unfold relG; rw [List.length_append, List.length_take, List.length_map, List.length_drop]; omega
  refine ⟨hx, v, relG H0.length d G, ?_, rfl, Fs, Hm, hFr, fun b hb => ?_, by rw [hlen]; exact hO.len, fun r hr => hrel r hr _ _ hl hl2 (hO.ok r hr), hO.apart⟩
  · simp only [h1, Option.bind_some, h2, leaveK, hg, if_true, hc]; rfl
  · unfold relG
    rw [leave_get (by omega), if_pos (by omega)]
    exact hO.pre b hb

/-! ### What a growing callee wrote -/
section
variable {α β : Type} [GoT α] [GoM α] [GoT β] [GoM β] {G G1 G' H H0 Hm : Heap} {rs rs0 rs1 rest : List Res} {S Sc F F2 : List Nat}
def Res.inS (S : List Nat) : Res → Prop
  | .blk .. => S = []
  | .fblk S' _ _ => S' = S
  | .tree S' _ _ => S' = S
  | _ => False
theorem Sees.trans {Ha Hb Hc : Heap} (h1 : Sees Ha Hb S) (h2 : Sees Hb Hc Sc) (hs : ∀ b ∈ Sc, b < Hb.length → b ∈ S) : Sees Ha Hc S := ⟨h2.1.trans h1.1, fun b hb => by
  rcases Nat.lt_or_ge b Hb.length with hl | hl
  · rw [h2.2 b fun h => hb (hs b h hl)]; exact h1.2 b hb
  · rw [← h1.2 b hb, List.getElem?_eq_none hl, List.getElem?_eq_none (by have := h2.1; omega)]⟩
theorem Owns.backG (hO : Owns H G (rs0 ++ rest)) (hS : ∀ b ∈ S, ∃ r ∈ rs0, b ∈ r.nums) (hSc : ∀ b ∈ S, b < H.length → b ∈ Sc) (hse : Sees G Hm S) (ho : Owns Hm G' (rs1.map (Res.toS S))) (hin : ∀ r ∈ rs1, r.inS Sc) :
    Sees H (G'.take H.length) S ∧ Owns (G'.take H.length) G' (rs1 ++ rest) := by
  have l1 := hO.len
  have l2 := ho.len
  have l3 := hse.1
  have ht : (G'.take H.length).length = H.length := by rw [List.length_take]; omega
  have hsame : ∀ b, b < G.length → b ∉ S → G'[b]? = G[b]? := fun b hb hn => by rw [ho.pre b (by omega)]; exact hse.2 b hn
  obtain ⟨a1, a2, a3⟩ := List.pairwise_append.1 hO.apart
  have hrest : ∀ r ∈ rest, ∀ x ∈ r.nums, x < G.length ∧ x ∉ S := fun r hr x hx => ⟨Res.nums_lt (hO.ok r (List.mem_append_right _ hr)) hx, fun h => by
    obtain ⟨r0, h0, hx0⟩ := hS x h
    exact a3 r0 h0 r hr x hx0 hx⟩
  have hok1 : ∀ r ∈ rs1, (r.toS S).ok Hm G' := fun r hr => ho.ok _ (List.mem_map_of_mem hr)
  refine ⟨⟨ht, fun b hb => ?_⟩, fun b hb => ?_, by rw [ht]; omega, fun r hr => ?_, ?_⟩
  · rw [List.getElem?_take]
    split
    · rename_i hlt; rw [hsame b (by omega) hb]; exact hO.pre b hlt
    · rename_i hge; rw [List.getElem?_eq_none (by omega)]
  · rw [ht] at hb; rw [List.getElem?_take, if_pos hb]
  · refine Res.ok_len ht ?_
    rcases List.mem_append.1 hr with hr | hr
    · have h1 := hok1 r hr
      have h2 := hin r hr
      cases r with
      | blk n b =>
        subst h2
        refine ⟨Nat.not_lt.1 fun hlt => ?_, h1.2⟩
        cases hSc n (h1.1 (by omega)) hlt
      | fblk S' n b => subst h2; exact ⟨fun hlt => hSc n (h1.1 (by omega)) hlt, h1.2⟩
      | tree S' F p => subst h2; exact ⟨fun b hb => ⟨(h1.1 b hb).1, fun hlt => hSc b ((h1.1 b hb).2 (by omega)) hlt⟩, h1.2⟩
      | own v d sz n cells => cases h2
      | fown S' v d d1 sz n cells => cases h2
    · exact Res.ok_mono (hO.ok r (List.mem_append_right _ hr)) fun x hx => hsame x (hrest r hr x hx).1 (hrest r hr x hx).2
  · refine List.pairwise_append.2 ⟨?_, a2, fun r hr r' hr' x hx hx' => ?_⟩
    · have := ho.apart
      rw [List.pairwise_map] at this
      exact this.imp fun h => by rw [Res.toS_nums, Res.toS_nums] at h; exact h
    · have h9 := hrest r' hr' x hx'
      refine h9.2 ?_
      have h1 := hok1 r hr
      have h2 := hin r hr
      have hlt : x < Hm.length := by omega
      cases r with
      | blk n b => simp only [Res.nums, List.mem_singleton] at hx; subst hx; exact h1.1 hlt
      | fblk S' n b => simp only [Res.nums, List.mem_singleton] at hx; subst hx; exact h1.1 hlt
      | tree S' F p => exact (h1.1 x hx).2 hlt
      | own v d sz n cells => cases h2
      | fown S' v d d1 sz n cells => cases h2
/-- A mutable value that was got becomes a part of another one. -/
theorem Owns.join {j : Nat} {p p' q : Heap → Prop} (hO : Owns H G (.tree [] F2 q :: rs)) (hj : rs[j]? = some (.tree S F p)) (hl : G'.length = G.length) (hs : ∀ b, b ∉ F → G'[b]? = G[b]?) (hp : ∀ G2, (∀ b ∈ F ++ F2, G2[b]? = G'[b]?) → p' G2) :
    Owns (G'.take H.length) G' (rs.set j (.tree S (F ++ F2) p')) := by
  have hj' : (Res.tree [] F2 q :: rs)[j + 1]? = some (.tree S F p) := hj
  have l1 := hO.len
  have ht : (G'.take H.length).length = H.length := by rw [List.length_take]; omega
  obtain ⟨_, hbd⟩ := hO.tree hj'
  obtain ⟨_, hbd2⟩ := hO.tree (j := 0) (F := F2) (S := []) rfl
  obtain ⟨hj1, hj2⟩ := List.getElem?_eq_some_iff.1 hj
  obtain ⟨hO1, hO2, hO3, hO4⟩ := hO
  have hp2 := List.pairwise_iff_getElem.1 (List.pairwise_cons.1 hO4).2
  have key : ∀ i (hi : i < rs.length), i ≠ j → ∀ c ∈ F ++ F2, c ∉ rs[i].nums := fun i hi hij c hc hc' => by
    rcases List.mem_append.1 hc with hc | hc
    · rcases Nat.lt_or_ge i j with h | h
      · exact hp2 i j hi hj1 h c hc' (by rw [hj2]; exact hc)
      · exact hp2 j i hj1 hi (by omega) c (by rw [hj2]; exact hc) hc'
    · exact (List.pairwise_cons.1 hO4).1 _ (List.getElem_mem hi) c hc hc'
  refine ⟨fun c hc => ?_, by rw [ht]; omega, fun r hr => Res.ok_len ht ?_, ?_⟩
  · rw [ht] at hc; rw [List.getElem?_take, if_pos hc]
  · obtain ⟨i, hi, e⟩ := List.mem_iff_getElem.1 hr
    rw [List.length_set] at hi
    rw [List.getElem_set] at e
    split at e
    · subst e
      refine ⟨fun c hc => ?_, hp⟩
      rw [hl]
      rcases List.mem_append.1 hc with hc | hc
      · exact hbd c hc
      · exact ⟨(hbd2 c hc).1, fun h => by cases (hbd2 c hc).2 h⟩
    · rename_i hij
      subst e
      have hok := hO3 _ (List.mem_cons_of_mem (Res.tree [] F2 q) (List.getElem_mem hi))
      exact Res.ok_mono hok fun c hc => hs c fun hcF => key i hi (by omega) c (by simp [hcF]) hc
  · rw [List.pairwise_iff_getElem]
    intro a b ha hb hab c hc hc'
    rw [List.length_set] at ha hb
    rw [List.getElem_set] at hc hc'
    split at hc
    · rename_i e; subst e
      rw [if_neg (by omega)] at hc'
      exact key b hb (by omega) c hc hc'
    · split at hc'
      · rename_i e; subst e
        exact key a ha (by omega) c hc' hc
      · exact hp2 a b ha hb hab c hc hc'
end

section steps
variable {P : Program} {h : Hints} {fk n base : Nat} {lk : Lk} {c : Cx} {ops : Array Oper} {s kk : Bool} {d : Nat} {ty : TypeId} {pos : String} {aft : Array Edge} {l : List (Bool × Bool × Oper)} {Q : St → Prop} {T : Nat → V} {G G' H H0 : Heap} {rs : List Res} {op : Op} {S F F2 : List Nat}
/-- A whole struct that came by reference is loaded. -/
theorem pLrS {t : TypeId} {x : Operand} {b sz m : Nat} {cs : List V} (hO : Owns H G rs) (j : Nat) (ha : aggT P t = some true) (hz : szOf P t = some m) (k : wpR (cxL P h fk n base lk) ops l ⟨upd T d (.agg cs), G⟩ Q) (h1 : ev T x = some (.ptr b 0) := by rfl) (hj : rs[j]? = some (.fblk S b (.cells sz cs)) := by rfl) (hl : cs.length = m := by rfl) (hd : Nat.blt d n = true := by rfl) :
    wpR (cxL P h fk n base lk) ops ((s, kk, ⟨some d, .load t x, ty, pos, aft, none⟩) :: l) ⟨T, G⟩ Q := by
  refine pLh (.agg cs) (hO.getF hj).1 ?_ k h1 hd
  subst hl
  unfold readCells
  simp only [ha, hz, Option.bind_some]
  rw [if_pos (by omega), List.drop_zero, List.take_length]
section
variable {α β : Type} [GoT α] [GoM α] [GoT β] [GoM β]
/-- A scalar comes into a place of a mutable list that came by reference. -/
theorem pSTr {get : α → β} {set : α → β → α} {off b : Nat} (L : Foc α β get set off) {xs : List α} {i : Int} {x : α} {t : TypeId} {y z : Operand} {v w : V} {y' : β} (hO : Owns H G rs) (j : Nat) (hv : v = .sl b 0 xs.length) (hc : getI xs i = some x) (hz : szOf P t = some (GoT.sz β)) (hw : ∀ G, GoM.tr G y' [w] [])
    (hFr : Sees H0 H S) (hS : ∀ b ∈ S, unlocked lk b = true) (hb : base = H0.length) (k : ∀ H' G', Sees H0 H' S → Owns H' G' (rs.set j (Tree S F (xs.set i.toNat (set x y')) [v])) → wpR (cxL P h fk n base lk) ops l ⟨T, G'⟩ Q)
    (h1 : ev T y = some (.ptr b (i.toNat * GoT.sz α + off)) := by rfl) (h2 : ev T z = some w := by rfl) (hg : h.grow fk = true := by rfl) (hgv : cleanG 1 w = true := by rfl) (h3 : w.cellsOf = [w] := by rfl) (hj : rs[j]? = some (Tree S F xs [v]) := by rfl) :
    wpR (cxL P h fk n base lk) ops ((s, kk, ⟨none, .store t y z, ty, pos, aft, none⟩) :: l) ⟨T, G⟩ Q := by
  obtain ⟨ht, hbd⟩ := hO.tree hj
  obtain ⟨cells, hbF, hgb, hfit, hcell, hput⟩ := tree_put (F2 := []) L ht hc hv ⟨[], .nil, fun _ h => h, hw G⟩ (fun _ h => by cases h)
  have hlt := (List.getElem?_eq_some_iff.1 hgb).1
  have hlw : [w].length = GoT.sz β := GoM.len (hw G)
  rw [List.append_nil] at hput
  have hs : ∀ c, c ∉ F → (G.set b (.cells (GoT.sz α) (splice cells (i.toNat * GoT.sz α + off) [w])))[c]? = G[c]? := fun c hc => by
    rw [set_get, if_neg]
    rintro ⟨rfl, _⟩; exact hc hbF
  refine pV0 (store_any hz ?_ ?_ hgb (by rw [h3]; exact hfit) (by rw [h3]; exact hlw) (by rw [h3]; exact hcell) h1 h2) (k _ _ (hFr.chg hO hj (List.length_set ..) hs) ?_)
  · have hbb : base = H.length := hb.trans hFr.1.symm
    subst hbb
    exact ref_may hS (hbd b hbF).2
  · rw [if_pos hg, if_pos hgv]; simp
  · rw [h3]
    exact hO.chg hj (List.length_set ..) hs fun G2 h2 => hput.mono h2
/-- A mutable value that was got comes into a mutable list that came by reference. -/
theorem pSTTr [GoG α] {b : Nat} {xs : List α} {i : Int} {x y' : α} {t : TypeId} {y z : Operand} {v w : V} {cs : List V} (hO : Owns H G (Tree [] F2 y' cs :: rs)) (j : Nat) (hv : v = .sl b 0 xs.length) (hc : getI xs i = some x) (hz : szOf P t = some (GoT.sz α))
    (hFr : Sees H0 H S) (hS : ∀ b ∈ S, unlocked lk b = true) (hb : base = H0.length) (k : ∀ H' G', Sees H0 H' S → Owns H' G' (rs.set j (Tree S (F ++ F2) (xs.set i.toNat y') [v])) → wpR (cxL P h fk n base lk) ops l ⟨T, G'⟩ Q)
    (h1 : ev T y = some (.ptr b (i.toNat * GoT.sz α)) := by rfl) (h2 : ev T z = some w := by rfl) (hcw : cs.all (cleanG 1) = true → cleanG 1 w = true := by exact cleanGL_all) (hg : h.grow fk = true := by rfl) (h3 : w.cellsOf = cs := by rfl) (hj : rs[j]? = some (Tree S F xs [v]) := by rfl) :
    wpR (cxL P h fk n base lk) ops ((s, kk, ⟨none, .store t y z, ty, pos, aft, none⟩) :: l) ⟨T, G⟩ Q := by
  have hj' : (Tree [] F2 y' cs :: rs)[j + 1]? = some (Tree S F xs [v]) := hj
  obtain ⟨ht, hbd⟩ := hO.tree hj'
  obtain ⟨ht2, hbd2⟩ := hO.tree (j := 0) (F := F2) (S := []) rfl
  have hap : ∀ c ∈ F2, c ∉ F := fun c hc hc' => (List.pairwise_cons.1 hO.apart).1 _ (List.mem_of_getElem? hj) c hc hc'
  obtain ⟨cells, hbF, hgb, hfit, hcell, hput⟩ := tree_put Foc.all ht hc hv ht2 hap
  obtain ⟨hlw, _⟩ := ht2.cells
  have hs : ∀ c, c ∉ F → (G.set b (.cells (GoT.sz α) (splice cells (i.toNat * GoT.sz α + 0) cs)))[c]? = G[c]? := fun c hc => by
    rw [set_get, if_neg]
    rintro ⟨rfl, _⟩; exact hc hbF
  have hcl : cleanG 1 w = true := by
    obtain ⟨F', _, _, h3⟩ := ht2
    exact hcw (GoG.cl h3 1).1
  subst h3
  refine pV0 (store_any hz ?_ ?_ hgb (by simpa using hfit) hlw hcell h1 h2) (k _ _ (hFr.chg hO hj' (List.length_set ..) hs) (hO.join hj (List.length_set ..) hs fun G2 h2 => hput.mono h2))
  · have hbb : base = H.length := hb.trans hFr.1.symm
    subst hbb
    exact ref_may hS (hbd b hbF).2
  · rw [if_pos hg, if_pos hcl]; simp
/-- The place of an element of a list that is a part of a mutable value; a scalar there. -/
theorem pXS {R : Heap → List α → Prop} {Fs : List Nat} {xs : List α} {i : Int} {x : α} {t e : TypeId} {y z : Operand} {kd : IntKind} {u : V} (hs : Sub G R F [u] Fs xs) (hc : getI xs i = some x) (he : elemT P t = some e) (hz : szOf P e = some (GoT.sz α)) (k : ∀ b, u = .sl b 0 xs.length → wpR (cxL P h fk n base lk) ops l ⟨upd T d (.ptr b (i.toNat * GoT.sz α)), G⟩ Q)
    (h1 : ev T y = some u := by rfl) (h2 : ev T z = some (.int kd i) := by rfl) (hd : Nat.blt d n = true := by rfl) :
    wpR (cxL P h fk n base lk) ops ((s, kk, ⟨some d, .indexAddr t y z, ty, pos, aft, none⟩) :: l) ⟨T, G⟩ Q := by
  obtain ⟨b, cells, F', rfl, _⟩ := tr_open hs.tr hc
  refine pV ?_ hd (k b rfl)
  rw [opV_indexAddr]
  show (elemT P t).bind _ = _
  rw [he, Option.bind_some]
  show (szOf P e).bind _ = _
  simp only [hz, h1, h2, Option.bind_some, asInt, idxP, lenK]
  rw [if_pos (getI_lt hc)]
  simp
theorem pLXS [GoIv α] {R : Heap → List α → Prop} {Fs : List Nat} {xs : List α} {i : Int} {x : α} {t : TypeId} {y : Operand} {u : V} {b : Nat} (w : V) (hs : Sub G R F [u] Fs xs) (hv : u = .sl b 0 xs.length) (hc : getI xs i = some x) (ha : aggT P t = some false)
    (k : wpR (cxL P h fk n base lk) ops l ⟨upd T d w, G⟩ Q) (hw : GoT.encL 0 x = [w] := by rfl) (h1 : ev T y = some (.ptr b (i.toNat * GoT.sz α)) := by rfl) (hd : Nat.blt d n = true := by rfl) :
    wpR (cxL P h fk n base lk) ops ((s, kk, ⟨some d, .load t y, ty, pos, aft, none⟩) :: l) ⟨T, G⟩ Q := by
  obtain ⟨cells, c1, c2, c3, Fs, hg, rfl, hl, hl2, ⟨F', _, _, ht⟩, _, _, _⟩ := sub_elem Foc.all hs.tr hc hv
  obtain ⟨rfl, _⟩ := GoIv.inv ht
  refine pLh w hg ?_ k h1 hd
  unfold readCells
  rw [ha]
  show (c1 ++ (GoT.encL 0 x ++ c3))[i.toNat * GoT.sz α]? = some _
  rw [hw, ← Nat.add_zero (i.toNat * GoT.sz α), ← hl, List.getElem?_append_right (Nat.le_refl _), Nat.sub_self]; rfl
theorem pLenS {R : Heap → List α → Prop} {Fs : List Nat} {xs : List α} {x : Operand} {t : TypeId} {u : V} (hs : Sub G R F [u] Fs xs) (ht : strT P t = some false) (k : wpR (cxL P h fk n base lk) ops l ⟨upd T d (.int .i64 xs.length), G⟩ Q) (h1 : ev T x = some u := by rfl) (hd : Nat.blt d n = true := by rfl) :
    wpR (cxL P h fk n base lk) ops ((s, kk, ⟨some d, .call ⟨.builtin .len, #[x], #[t]⟩, ty, pos, aft, none⟩) :: l) ⟨T, G⟩ Q := by
  refine pLen (b := false) (a := u) ht k h1 ?_ hd
  have := len_tr hs.tr
  cases u <;> first | exact this | simp [lenK] at this
theorem pSXr {R : Heap → List α → Prop} {Fs : List Nat} {xs : List α} {i : Int} {x y' : α} {t : TypeId} {y z : Operand} {u w : V} {b : Nat} {p : Heap → Prop} (hO : Owns H G rs) (j : Nat) (hsub : Sub G R F [u] Fs xs) (hv : u = .sl b 0 xs.length) (hc : getI xs i = some x) (hz : szOf P t = some (GoT.sz α)) (hw : ∀ G, GoM.tr G y' [w] [])
    (hFr : Sees H0 H S) (hS : ∀ b ∈ S, unlocked lk b = true) (hb : base = H0.length) (k : ∀ H' G', Sees H0 H' S → Owns H' G' (rs.set j (.tree S F fun G => R G (xs.set i.toNat y'))) → wpR (cxL P h fk n base lk) ops l ⟨T, G'⟩ Q)
    (h1 : ev T y = some (.ptr b (i.toNat * GoT.sz α)) := by rfl) (h2 : ev T z = some w := by rfl) (hg : h.grow fk = true := by rfl) (hgv : cleanG 1 w = true := by rfl) (h3 : w.cellsOf = [w] := by rfl) (hj : rs[j]? = some (.tree S F p) := by rfl) :
    wpR (cxL P h fk n base lk) ops ((s, kk, ⟨none, .store t y z, ty, pos, aft, none⟩) :: l) ⟨T, G⟩ Q := by
  obtain ⟨_, hbd⟩ := hO.tree hj
  obtain ⟨cells, hbF, hgb, hfit, hcell, hput⟩ := tree_put (F2 := []) Foc.all hsub.tr hc hv ⟨[], .nil, fun _ h => h, hw G⟩ (fun _ h => by cases h)
  have hlw : [w].length = GoT.sz α := GoM.len (hw G)
  rw [List.append_nil] at hput
  have hs' : ∀ c, c ∉ Fs → (G.set b (.cells (GoT.sz α) (splice cells (i.toNat * GoT.sz α + 0) [w])))[c]? = G[c]? := fun c hc => by
    rw [set_get, if_neg]
    rintro ⟨rfl, _⟩; exact hc hbF
  have hs : ∀ c, c ∉ F → (G.set b (.cells (GoT.sz α) (splice cells (i.toNat * GoT.sz α + 0) [w])))[c]? = G[c]? := fun c hc => hs' c fun h => hc (hsub.sub c h)
  refine pV0 (store_any (off := i.toNat * GoT.sz α + 0) hz ?_ ?_ hgb (by rw [h3]; exact hfit) (by rw [h3]; exact hlw) (by rw [h3]; exact hcell) (by rw [Nat.add_zero]; exact h1) h2) (k _ _ (hFr.chg hO hj (List.length_set ..) hs) ?_)
  · have hbb : base = H.length := hb.trans hFr.1.symm
    subst hbb
    exact ref_may hS (hbd b (hsub.sub b hbF)).2
  · rw [if_pos hg, if_pos hgv]; simp
  · rw [h3]
    exact hO.chg hj (List.length_set ..) hs fun G2 h2 => hsub.fr _ _ _ (hsub.back _ _ hs' hput) h2
end

/-! ### Growing calls -/
variable {rs0 rest : List Res} {ι : Type} {rs1 : ι → List Res}
theorem call_refG {f : Operand} {args : Array Operand} {ats : Array TypeId} {g : FuncId} {caps vs vs' : List V} {r : V} (hr : runL P h g vs' G (lk ++ [((cxL P h fk n base lk).care s false).locksFor g [] G]) = some (r, G')) (h1 : ev T f = some (.fn g caps)) (h2 : evL T args.toList = some vs)
    (h3 : lendArgs ((cxL P h fk n base lk).care s false) (h.modes g) G (vs ++ caps) = some (vs', [], G)) : opV ((cxL P h fk n base lk).care s false) (.call ⟨.value f, args, ats⟩) ⟨T, G⟩ = some (r, G') := by
  rw [opV_call]
  simp only [h1, h2, Option.bind_some, fnOf]
  show (lendArgs ((cxL P h fk n base lk).care s false) (h.modes g) G (vs ++ caps)).bind _ = _
  rw [h3]
  simp only [Option.bind_some]
  exact hr
theorem locks_G {g : FuncId} : ∀ b ∈ ((cxL P h fk n base lk).care s false).locksFor g [] G, b < base ∧ h.grow fk = false := fun b hb => by
  unfold Cx.locksFor at hb
  rw [if_neg (by show ¬ false = true; simp)] at hb
  split at hb
  · rename_i e
    have e' : (h.grow g && !h.grow fk) = true := e
    simp only [Bool.and_eq_true, Bool.not_eq_true'] at e'
    have h9 : b ∈ ([] : List Nat) ++ List.range base := hb
    exact ⟨by simpa using h9, e'.2⟩
  · cases hb
/-- A growing call that writes into own blocks and lists, which stand in front. -/
theorem call_G {f : Operand} {args : Array Operand} {ats : Array TypeId} {g : FuncId} {caps vs vs' : List V} {v : V} (hO : Owns H G (rs0 ++ rest)) (hlo : LkOk lk H.length) (hb : base = H.length) (hS : ∀ r ∈ rs0, ∀ b ∈ r.nums, b ∈ S) (hS' : ∀ b ∈ S, ∃ r ∈ rs0, b ∈ r.nums) (hown : ∀ r ∈ rs0, ∀ b ∈ r.nums, H.length ≤ b)
    (hr : ∀ L, LkOk (lk ++ [L]) G.length → (∀ b ∈ S, b < G.length) → (∀ b ∈ S, unlocked (lk ++ [L]) b = true) → Owns G G (rs0.map (Res.toS S)) → ∃ v1 H1, runL P h g vs' G (lk ++ [L]) = some (v1, H1) ∧ v1 = v ∧ ∃ (Fs : ι) (Hm : Heap), Sees G Hm S ∧ Owns Hm H1 ((rs1 Fs).map (Res.toS S)))
    (hc : rs0.all Res.canS = true) (hin : ∀ Fs, ∀ r ∈ rs1 Fs, r.inS [])
    (h1 : ev T f = some (.fn g caps)) (h2 : evL T args.toList = some vs) (h3 : lendArgs ((cxL P h fk n base lk).care s false) (h.modes g) G (vs ++ caps) = some (vs', [], G)) :
    ∃ G' Fs, opV ((cxL P h fk n base lk).care s false) (.call ⟨.value f, args, ats⟩) ⟨T, G⟩ = some (v, G') ∧ Owns H G' (rs1 Fs ++ rest) := by
  have hlow : ∀ b ∈ S, H.length ≤ b := fun b hb' => by obtain ⟨r, hr, hx⟩ := hS' b hb'; exact hown r hr b hx
  have hlt : ∀ b ∈ S, b < G.length := fun b hb' => by obtain ⟨r, hr, hx⟩ := hS' b hb'; exact Res.nums_lt (hO.ok r (List.mem_append_left _ hr)) hx
  obtain ⟨v1, H1, hv, rfl, Fs, Hm, hse, ho⟩ := hr _ (hlo.push hO.len fun b hx => by
    have := (locks_G (P := P) (h := h) (fk := fk) (n := n) (base := base) (lk := lk) (s := s) (G := G) (g := g) b hx).1
    have := hO.len
    omega) hlt (fun b hb' => hlo.free (hlow b hb') fun hx => by
    have := (locks_G (P := P) (h := h) (fk := fk) (n := n) (base := base) (lk := lk) (s := s) (G := G) (g := g) b hx).1
    have := hlow b hb'
    omega) (hO.lendS hc hS)
  obtain ⟨e1, e2⟩ := hO.backG (Sc := []) hS' (fun b hb' hlt => by have := hlow b hb'; omega) hse ho (hin Fs)
  have e3 : H1.take H.length = H := by
    apply List.ext_getElem?
    intro b
    rcases Nat.lt_or_ge b H.length with hl | hl
    · exact e1.2 b fun h => by have := hlow b h; omega
    · rw [List.getElem?_eq_none hl, List.getElem?_eq_none (by have := e1.1; omega)]
  rw [e3] at e2
  exact ⟨H1, Fs, call_refG hv h1 h2 h3, e2⟩
theorem pCG {f : Operand} {args : Array Operand} {ats : Array TypeId} {g : FuncId} {caps vs vs' : List V} {v : V} (hO : Owns H G (rs0 ++ rest)) (hlo : LkOk lk H.length) (hb : base = H.length) (hS : ∀ r ∈ rs0, ∀ b ∈ r.nums, b ∈ S) (hS' : ∀ b ∈ S, ∃ r ∈ rs0, b ∈ r.nums) (hown : ∀ r ∈ rs0, ∀ b ∈ r.nums, H.length ≤ b)
    (hr : ∀ L, LkOk (lk ++ [L]) G.length → (∀ b ∈ S, b < G.length) → (∀ b ∈ S, unlocked (lk ++ [L]) b = true) → Owns G G (rs0.map (Res.toS S)) → ∃ v1 H1, runL P h g vs' G (lk ++ [L]) = some (v1, H1) ∧ v1 = v ∧ ∃ (Fs : ι) (Hm : Heap), Sees G Hm S ∧ Owns Hm H1 ((rs1 Fs).map (Res.toS S)))
    (hin : ∀ Fs, ∀ r ∈ rs1 Fs, r.inS []) (k : ∀ Fs G', Owns H G' (rs1 Fs ++ rest) → wpR (cxL P h fk n base lk) ops l ⟨T, G'⟩ Q)
    (hc : rs0.all Res.canS = true := by rfl) (h1 : ev T f = some (.fn g caps) := by rfl) (h2 : evL T args.toList = some vs := by rfl) (h3 : lendArgs ((cxL P h fk n base lk).care s false) (h.modes g) G (vs ++ caps) = some (vs', [], G) := by rfl) :
    wpR (cxL P h fk n base lk) ops ((s, false, ⟨none, .call ⟨.value f, args, ats⟩, ty, pos, aft, none⟩) :: l) ⟨T, G⟩ Q := by
  obtain ⟨G', Fs, e1, e2⟩ := call_G (ats := ats) hO hlo hb hS hS' hown hr hc hin h1 h2 h3
  exact pV0 e1 (k Fs G' e2)
theorem pCGd {f : Operand} {args : Array Operand} {ats : Array TypeId} {g : FuncId} {caps vs vs' : List V} {v : V} (hO : Owns H G (rs0 ++ rest)) (hlo : LkOk lk H.length) (hb : base = H.length) (hS : ∀ r ∈ rs0, ∀ b ∈ r.nums, b ∈ S) (hS' : ∀ b ∈ S, ∃ r ∈ rs0, b ∈ r.nums) (hown : ∀ r ∈ rs0, ∀ b ∈ r.nums, H.length ≤ b)
    (hr : ∀ L, LkOk (lk ++ [L]) G.length → (∀ b ∈ S, b < G.length) → (∀ b ∈ S, unlocked (lk ++ [L]) b = true) → Owns G G (rs0.map (Res.toS S)) → ∃ v1 H1, runL P h g vs' G (lk ++ [L]) = some (v1, H1) ∧ v1 = v ∧ ∃ (Fs : ι) (Hm : Heap), Sees G Hm S ∧ Owns Hm H1 ((rs1 Fs).map (Res.toS S)))
    (hin : ∀ Fs, ∀ r ∈ rs1 Fs, r.inS []) (k : ∀ Fs G', Owns H G' (rs1 Fs ++ rest) → wpR (cxL P h fk n base lk) ops l ⟨upd T d v, G'⟩ Q)
    (hc : rs0.all Res.canS = true := by rfl) (h1 : ev T f = some (.fn g caps) := by rfl) (h2 : evL T args.toList = some vs := by rfl) (h3 : lendArgs ((cxL P h fk n base lk).care s false) (h.modes g) G (vs ++ caps) = some (vs', [], G) := by rfl) (hd : Nat.blt d n = true := by rfl) :
    wpR (cxL P h fk n base lk) ops ((s, false, ⟨some d, .call ⟨.value f, args, ats⟩, ty, pos, aft, none⟩) :: l) ⟨T, G⟩ Q := by
  obtain ⟨G', Fs, e1, e2⟩ := call_G (ats := ats) hO hlo hb hS hS' hown hr hc hin h1 h2 h3
  exact pV e1 hd (k Fs G' e2)
/-- The same in a growing call, into what came by reference. -/
theorem call_Gr {f : Operand} {args : Array Operand} {ats : Array TypeId} {g : FuncId} {caps vs vs' : List V} {v : V} {Sc : List Nat} (hO : Owns H G (rs0 ++ rest)) (hFr : Sees H0 H Sc) (hU : ∀ b ∈ Sc, unlocked lk b = true) (hlo : LkOk lk H0.length) (hS : ∀ r ∈ rs0, ∀ b ∈ r.nums, b ∈ S) (hS' : ∀ b ∈ S, ∃ r ∈ rs0, b ∈ r.nums) (hin0 : ∀ r ∈ rs0, r.inS Sc)
    (hr : LkOk (lk ++ [[]]) G.length → (∀ b ∈ S, b < G.length) → (∀ b ∈ S, unlocked (lk ++ [[]]) b = true) → Owns G G (rs0.map (Res.toS S)) → ∃ v1 H1, runL P h g vs' G (lk ++ [[]]) = some (v1, H1) ∧ v1 = v ∧ ∃ (Fs : ι) (Hm : Heap), Sees G Hm S ∧ Owns Hm H1 ((rs1 Fs).map (Res.toS S)))
    (hc : rs0.all Res.canS = true) (hin : ∀ Fs, ∀ r ∈ rs1 Fs, r.inS Sc) (hg : h.grow fk = true)
    (h1 : ev T f = some (.fn g caps)) (h2 : evL T args.toList = some vs) (h3 : lendArgs ((cxL P h fk n base lk).care s false) (h.modes g) G (vs ++ caps) = some (vs', [], G)) :
    ∃ H' G' Fs, opV ((cxL P h fk n base lk).care s false) (.call ⟨.value f, args, ats⟩) ⟨T, G⟩ = some (v, G') ∧ Sees H0 H' Sc ∧ Owns H' G' (rs1 Fs ++ rest) := by
  have hlt : ∀ b ∈ S, b < G.length := fun b hb' => by obtain ⟨r, hr, hx⟩ := hS' b hb'; exact Res.nums_lt (hO.ok r (List.mem_append_left _ hr)) hx
  have hSc : ∀ b ∈ S, b < H.length → b ∈ Sc := fun b hb' hl => by
    obtain ⟨r, hr, hx⟩ := hS' b hb'
    have h1 := hO.ok r (List.mem_append_left _ hr)
    have h2 := hin0 r hr
    cases r with
    | blk n b => simp only [Res.nums, List.mem_singleton] at hx; subst hx; have := h1.1; omega
    | fblk S' n b => subst h2; simp only [Res.nums, List.mem_singleton] at hx; subst hx; exact h1.1 hl
    | tree S' F p => subst h2; exact (h1.1 b hx).2 hl
    | own v d sz n cells => cases h2
    | fown S' v d d1 sz n cells => cases h2
  have hlk : ((cxL P h fk n base lk).care s false).locksFor g [] G = [] := List.eq_nil_iff_forall_not_mem.2 fun b hb => by
    have := (locks_G b hb).2
    rw [hg] at this; cases this
  obtain ⟨v1, H1, hv, rfl, Fs, Hm, hse, ho⟩ := hr (hlo.push (by rw [← hFr.1]; exact hO.len) fun b hx => by cases hx) hlt (fun b hb' => unlocked_nil (by
    rcases Nat.lt_or_ge b H.length with hl | hl
    · exact hU b (hSc b hb' hl)
    · exact hlo.freeO (by rw [← hFr.1]; exact hl))) (hO.lendS hc hS)
  obtain ⟨e1, e2⟩ := hO.backG (Sc := Sc) hS' hSc hse ho (hin Fs)
  exact ⟨_, H1, Fs, call_refG (by rw [hlk]; exact hv) h1 h2 h3, hFr.trans e1 fun b hb hl => hSc b hb hl, e2⟩
theorem pCGr {f : Operand} {args : Array Operand} {ats : Array TypeId} {g : FuncId} {caps vs vs' : List V} {v : V} {Sc : List Nat} (hO : Owns H G (rs0 ++ rest)) (hFr : Sees H0 H Sc) (hU : ∀ b ∈ Sc, unlocked lk b = true) (hlo : LkOk lk H0.length) (hS : ∀ r ∈ rs0, ∀ b ∈ r.nums, b ∈ S) (hS' : ∀ b ∈ S, ∃ r ∈ rs0, b ∈ r.nums) (hin0 : ∀ r ∈ rs0, r.inS Sc)
    (hr : LkOk (lk ++ [[]]) G.length → (∀ b ∈ S, b < G.length) → (∀ b ∈ S, unlocked (lk ++ [[]]) b = true) → Owns G G (rs0.map (Res.toS S)) → ∃ v1 H1, runL P h g vs' G (lk ++ [[]]) = some (v1, H1) ∧ v1 = v ∧ ∃ (Fs : ι) (Hm : Heap), Sees G Hm S ∧ Owns Hm H1 ((rs1 Fs).map (Res.toS S)))
    (hin : ∀ Fs, ∀ r ∈ rs1 Fs, r.inS Sc) (k : ∀ Fs H' G', Sees H0 H' Sc → Owns H' G' (rs1 Fs ++ rest) → wpR (cxL P h fk n base lk) ops l ⟨T, G'⟩ Q)
    (hc : rs0.all Res.canS = true := by rfl) (hg : h.grow fk = true := by rfl) (h1 : ev T f = some (.fn g caps) := by rfl) (h2 : evL T args.toList = some vs := by rfl) (h3 : lendArgs ((cxL P h fk n base lk).care s false) (h.modes g) G (vs ++ caps) = some (vs', [], G) := by rfl) :
    wpR (cxL P h fk n base lk) ops ((s, false, ⟨none, .call ⟨.value f, args, ats⟩, ty, pos, aft, none⟩) :: l) ⟨T, G⟩ Q := by
  obtain ⟨H', G', Fs, e1, e2, e3⟩ := call_Gr (ats := ats) hO hFr hU hlo hS hS' hin0 hr hc hin hg h1 h2 h3
  exact pV0 e1 (k Fs H' G' e2 e3)
theorem pCGrd {f : Operand} {args : Array Operand} {ats : Array TypeId} {g : FuncId} {caps vs vs' : List V} {v : V} {Sc : List Nat} (hO : Owns H G (rs0 ++ rest)) (hFr : Sees H0 H Sc) (hU : ∀ b ∈ Sc, unlocked lk b = true) (hlo : LkOk lk H0.length) (hS : ∀ r ∈ rs0, ∀ b ∈ r.nums, b ∈ S) (hS' : ∀ b ∈ S, ∃ r ∈ rs0, b ∈ r.nums) (hin0 : ∀ r ∈ rs0, r.inS Sc)
    (hr : LkOk (lk ++ [[]]) G.length → (∀ b ∈ S, b < G.length) → (∀ b ∈ S, unlocked (lk ++ [[]]) b = true) → Owns G G (rs0.map (Res.toS S)) → ∃ v1 H1, runL P h g vs' G (lk ++ [[]]) = some (v1, H1) ∧ v1 = v ∧ ∃ (Fs : ι) (Hm : Heap), Sees G Hm S ∧ Owns Hm H1 ((rs1 Fs).map (Res.toS S)))
    (hin : ∀ Fs, ∀ r ∈ rs1 Fs, r.inS Sc) (k : ∀ Fs H' G', Sees H0 H' Sc → Owns H' G' (rs1 Fs ++ rest) → wpR (cxL P h fk n base lk) ops l ⟨upd T d v, G'⟩ Q)
    (hc : rs0.all Res.canS = true := by rfl) (hg : h.grow fk = true := by rfl) (h1 : ev T f = some (.fn g caps) := by rfl) (h2 : evL T args.toList = some vs := by rfl) (h3 : lendArgs ((cxL P h fk n base lk).care s false) (h.modes g) G (vs ++ caps) = some (vs', [], G) := by rfl) (hd : Nat.blt d n = true := by rfl) :
    wpR (cxL P h fk n base lk) ops ((s, false, ⟨some d, .call ⟨.value f, args, ats⟩, ty, pos, aft, none⟩) :: l) ⟨T, G⟩ Q := by
  obtain ⟨H', G', Fs, e1, e2, e3⟩ := call_Gr (ats := ats) hO hFr hU hlo hS hS' hin0 hr hc hin hg h1 h2 h3
  exact pV e1 hd (k Fs H' G' e2 e3)
theorem inN {S : List Nat} : ∀ r ∈ ([] : List Res), r.inS S := fun r hr => by cases hr
theorem inC {S : List Nat} {r : Res} {rs : List Res} (h : r.inS S) (hs : ∀ q ∈ rs, q.inS S) : ∀ q ∈ r :: rs, q.inS S := fun q hq => by
  rcases List.mem_cons.1 hq with rfl | hq
  · exact h
  · exact hs q hq
end steps

end Go.Proofs.Ytblodpbcinkehaa.K
