/-
  Lists of a call's own that were made or appended to, which it is not known; scalars out of mutable lists. No conditions.
-/
import Derived.Test.YtblodpbcinkehaaKzh
set_option linter.unusedVariables false
set_option linter.unusedSimpArgs false
namespace Go.Proofs.Ytblodpbcinkehaa.K

section
variable {α : Type} [GoT α] {G G' H : Heap} {F : List Nat} {xs : List α} {v : V} {rs : List Res}
/-- A list of the call's own. -/
def AnIn (lo d : Nat) (G : Heap) (xs : List α) (v : V) (F : List Nat) : Prop := (v = .tl xs.length ((flatL 0) xs)) ∨ (∃ b, v = .snap b xs.length ((flatL 0) xs) ∧ b ∈ F ∧ G[b]? = some (.bld d xs.length (GoT.sz α))) ∨ ∃ b, v = .sl b 0 xs.length ∧ b ∈ F ∧ G[b]? = some (.cells (GoT.sz α) ((flatL 0) xs))
abbrev An (H : Heap) (d : Nat) (F : List Nat) (xs : List α) (v : V) : Res := .tree [] F fun G => AnIn H.length d G xs v F
theorem AnIn.mono {lo d : Nat} (h : AnIn lo d G xs v F) (hg : ∀ b ∈ F, G'[b]? = G[b]?) : AnIn lo d G' xs v F := by
  rcases h with h | ⟨b, h1, h2, h3⟩ | ⟨b, h1, h2, h3⟩
  · exact .inl h
  · exact .inr (.inl ⟨b, h1, h2, by rw [hg b h2]; exact h3⟩)
  · exact .inr (.inr ⟨b, h1, h2, by rw [hg b h2]; exact h3⟩)
theorem Owns.swapT {j : Nat} {r : Res} {p : Heap → Prop} (hO : Owns H G rs) (hj : rs[j]? = some r) (ho : r.isOwn = true) (hp : ∀ G', (∀ b ∈ r.nums, G'[b]? = G[b]?) → p G') : Owns H G (rs.set j (.tree [] r.nums p)) where
  pre := hO.pre
  len := hO.len
  ok := fun r2 hr => by
    obtain ⟨i, hi, e⟩ := List.mem_iff_getElem.1 hr
    rw [List.length_set] at hi
    rw [List.getElem_set] at e
    have h0 := hO.ok _ (List.mem_of_getElem? hj)
    split at e
    · subst e
      refine ⟨fun b hb => ⟨Res.nums_lt h0 hb, fun hlt => ?_⟩, hp⟩
      have := Res.nums_lo h0 ho hb
      omega
    · subst e
      exact hO.ok _ (List.getElem_mem hi)
  apart := pairwise_set hO.apart hj fun x hx => hx
theorem Owns.anyO {d sz : Nat} (hO : Owns H G rs) (j : Nat) (hj : rs[j]? = some (.own v d sz xs.length ((flatL 0) xs)) := by rfl) (hsz : sz = GoT.sz α := by rfl) : Owns H G (rs.set j (An H d (Res.own v d sz xs.length ((flatL 0) xs)).nums xs v)) := by
  subst hsz
  refine hO.swapT hj rfl fun G' hg => ?_
  rcases (hO.own hj).2 with rfl | ⟨b, rfl, hb, hgb⟩
  · exact .inl rfl
  · exact .inr (.inl ⟨b, rfl, by simp [Res.nums], by rw [hg b (by simp [Res.nums])]; exact hgb⟩)
theorem Owns.anyM {d sz b m : Nat} (hO : Owns H G rs) (j : Nat) (hl : xs.length = m) (hj : rs[j]? = some (.blk b (.cells sz ((flatL 0) xs))) := by rfl) (hsz : sz = GoT.sz α := by rfl) : Owns H G (rs.set j (An H d [b] xs (.sl b 0 m))) := by
  subst hsz hl
  refine hO.swapT (r := .blk b (.cells (GoT.sz α) ((flatL 0) xs))) hj rfl fun G' hg => ?_
  exact .inr (.inr ⟨b, rfl, by simp, by rw [hg b (by simp [Res.nums])]; exact (hO.get hj).1⟩)
theorem an_len {lo d : Nat} (h : AnIn lo d G xs v F) : lenK v = some xs.length := by
  rcases h with rfl | ⟨b, rfl, _⟩ | ⟨b, rfl, _⟩ <;> rfl
theorem ld_any {d j : Nat} (hO : Owns H G rs) (hj : rs[j]? = some (An H d F xs v)) (lv n : Nat) (hn : Nat.ble 2 n = true := by rfl) : ∃ l M, lendV lv G n v = some (.lit l xs.length ((flatL 0) xs), M) := by
  obtain ⟨k, rfl⟩ : ∃ k, n = k + 2 := ⟨n - 2, by have := Nat.le_of_ble_eq_true hn; omega⟩
  rcases (hO.tree hj).1 with rfl | ⟨b, rfl, _, _⟩ | ⟨b, rfl, _, hg⟩
  · exact ⟨lv, [], by rw [lendV, lendL_clean _ (flat_clean xs) (flat_cell xs)]; rfl⟩
  · exact ⟨lv, [], by rw [lendV, lendL_clean _ (flat_clean xs) (flat_cell xs)]; rfl⟩
  · have e0 : ¬ (((flatL 0) xs).length < 0 + xs.length * GoT.sz α) := by rw [flat_len]; omega
    have e1 : (List.drop 0 ((flatL 0) xs)).take (xs.length * GoT.sz α) = (flatL 0) xs := by rw [List.drop_zero]; exact List.take_of_length_le (by rw [flat_len]; exact Nat.le_refl _)
    refine ⟨lv, [b], ?_⟩
    rw [lendV]
    simp only [hg]
    rw [if_neg e0, e1, lendL_clean _ (flat_clean xs) (flat_cell xs)]; rfl
theorem fz_any {d : Nat} (hd : 0 < d) (j : Nat) (hj : rs[j]? = some (An H d F xs v) := by rfl) : FzV 2 H d rs v (.lit 0 xs.length ((flatL 0) xs)) (rs.eraseIdx j) := fun G hO k => by
  obtain ⟨h, hbd⟩ := hO.tree hj
  have hcl := fun X => resL_clean (th := false) (lo := H.length) (d := d) (k := k) (X := X) ((flatL 0) xs) (cleanL_up hd Nat.one_pos _ (flat_clean xs)) (flat_cell xs)
  have hsame : ∀ b ∈ F, ∀ c, c ∉ F → (G.set b .dead)[c]? = G[c]? := fun b hb c hc => by
    rw [set_get, if_neg]
    rintro ⟨rfl, _⟩; exact hc hb
  rcases h with rfl | ⟨b, rfl, hb, hgb⟩ | ⟨b, rfl, hb, hgb⟩
  · refine ⟨G, ?_, hO.drop (List.eraseIdx_sublist _ _)⟩
    rw [resV]
    split
    · rename_i h0
      have : xs = [] := List.eq_nil_of_length_eq_zero h0
      subst this
      rfl
    · rw [hcl]; rfl
  · have hlo := Nat.not_lt.1 fun h => by cases (hbd b hb).2 h
    refine ⟨G.set b .dead, ?_, drop_chg hO hj (by rw [List.length_set]; exact hO.len) (hsame b hb)⟩
    rw [resV]
    simp only [hgb]
    rw [if_neg (by omega), hcl]
    rfl
  · have hlo := Nat.not_lt.1 fun h => by cases (hbd b hb).2 h
    have e0 : ¬ (((flatL 0) xs).length < 0 + xs.length * GoT.sz α) := by rw [flat_len]; omega
    have e1 : (List.drop 0 ((flatL 0) xs)).take (xs.length * GoT.sz α) = (flatL 0) xs := by rw [List.drop_zero]; exact List.take_of_length_le (by rw [flat_len]; exact Nat.le_refl _)
    refine ⟨G.set b .dead, ?_, drop_chg hO hj (by rw [List.length_set]; exact hO.len) (hsame b hb)⟩
    rw [resV, if_neg (by omega)]
    simp only [hgb]
    rw [if_neg e0, e1, hcl]
    rfl
end
section steps
variable {P : Program} {h : Hints} {fk n base : Nat} {lk : Lk} {c : Cx} {ops : Array Oper} {s kk : Bool} {d : Nat} {ty : TypeId} {pos : String} {aft : Array Edge} {l : List (Bool × Bool × Oper)} {Q : St → Prop} {T : Nat → V} {G G' H H0 : Heap} {rs : List Res} {op : Op} {S F : List Nat}
variable {α : Type} [GoT α]
theorem pLenA {xs : List α} {x : Operand} {t : TypeId} {v : V} {dd : Nat} (hO : Owns H G rs) (j : Nat) (ht : strT P t = some false) (k : wpR (cxL P h fk n base lk) ops l ⟨upd T d (.int .i64 xs.length), G⟩ Q) (h1 : ev T x = some v := by rfl) (hj : rs[j]? = some (An H dd F xs v) := by rfl) (hd : Nat.blt d n = true := by rfl) :
    wpR (cxL P h fk n base lk) ops ((s, kk, ⟨some d, .call ⟨.builtin .len, #[x], #[t]⟩, ty, pos, aft, none⟩) :: l) ⟨T, G⟩ Q := by
  refine pLen (b := false) (a := v) ht k h1 ?_ hd
  have := an_len (hO.tree hj).1
  cases v <;> first | exact this | simp [lenK] at this
/-- The place of an element, whichever it is. -/
theorem pXA {xs : List α} {i : Int} {x : α} {t e : TypeId} {y z : Operand} {kd : IntKind} {v : V} {dd : Nat} (hO : Owns H G rs) (j : Nat) (hc : getI xs i = some x) (he : elemT P t = some e) (hz : szOf P e = some (GoT.sz α))
    (k : ∀ q : V, (∀ t w, readCells P t ((flatL 0) xs) (i.toNat * GoT.sz α) = some w → loadK P t G q = some w) → wpR (cxL P h fk n base lk) ops l ⟨upd T d q, G⟩ Q)
    (h1 : ev T y = some v := by rfl) (h2 : ev T z = some (.int kd i) := by rfl) (hj : rs[j]? = some (An H dd F xs v) := by rfl) (hd : Nat.blt d n = true := by rfl) :
    wpR (cxL P h fk n base lk) ops ((s, kk, ⟨some d, .indexAddr t y z, ty, pos, aft, none⟩) :: l) ⟨T, G⟩ Q := by
  have main : ∀ q : V, idxP ((cxL P h fk n base lk).care s kk).d (GoT.sz α) v i = some q → (∀ t w, readCells P t ((flatL 0) xs) (i.toNat * GoT.sz α) = some w → loadK P t G q = some w) → wpR (cxL P h fk n base lk) ops ((s, kk, ⟨some d, .indexAddr t y z, ty, pos, aft, none⟩) :: l) ⟨T, G⟩ Q := fun q hq hr => by
    refine pV ?_ hd (k q hr)
    rw [opV_indexAddr]
    show (elemT P t).bind _ = _
    rw [he, Option.bind_some]
    show (szOf P e).bind _ = _
    simp only [hz, h1, h2, Option.bind_some, asInt, hq, Option.map_some]
  rcases (hO.tree hj).1 with rfl | ⟨b, rfl, _, _⟩ | ⟨b, rfl, _, hg⟩
  · refine main (.lp 0 ((flatL 0) xs) (i.toNat * GoT.sz α)) ?_ fun t w hw => hw
    simp only [idxP, lenK, Option.bind_some]
    rw [if_pos (getI_lt hc)]
  · refine main (.lp ((cxL P h fk n base lk).care s kk).d ((flatL 0) xs) (i.toNat * GoT.sz α)) ?_ fun t w hw => hw
    simp only [idxP, lenK, Option.bind_some]
    rw [if_pos (getI_lt hc)]
  · refine main (.ptr b (0 + i.toNat * GoT.sz α)) ?_ fun t w hw => ?_
    · simp only [idxP, lenK, Option.bind_some]
      rw [if_pos (getI_lt hc)]
    · simp only [loadK, hg, Nat.zero_add]; exact hw
theorem pLA {t : TypeId} {y : Operand} {q w : V} (hq : loadK P t G q = some w) (k : wpR (cxL P h fk n base lk) ops l ⟨upd T d w, G⟩ Q) (h1 : ev T y = some q := by rfl) (hd : Nat.blt d n = true := by rfl) :
    wpR (cxL P h fk n base lk) ops ((s, kk, ⟨some d, .load t y, ty, pos, aft, none⟩) :: l) ⟨T, G⟩ Q := by
  refine pV ?_ hd k
  rw [opV_load]
  simp only [h1, Option.bind_some]
  show (loadK P t G q).map _ = _
  rw [hq]; rfl
/-- A number out of a mutable list. -/
theorem pLTi {α : Type} [GoT α] [GoM α] {get : α → Int} {set : α → Int → α} {off b : Nat} (L : Foc α Int get set off) {xs : List α} {i : Int} {x : α} {t : TypeId} {y : Operand} {v : V} (hO : Owns H G rs) (j : Nat) (hv : v = .sl b 0 xs.length) (hc : getI xs i = some x) (ha : aggT P t = some false)
    (k : wpR (cxL P h fk n base lk) ops l ⟨upd T d (.int .i64 (get x)), G⟩ Q) (h1 : ev T y = some (.ptr b (i.toNat * GoT.sz α + off)) := by rfl) (hj : rs[j]? = some (Tree S F xs [v]) := by rfl) (hd : Nat.blt d n = true := by rfl) :
    wpR (cxL P h fk n base lk) ops ((s, kk, ⟨some d, .load t y, ty, pos, aft, none⟩) :: l) ⟨T, G⟩ Q := by
  obtain ⟨cells, c1, c2, c3, Fs, hg, rfl, hl, hl2, ⟨F', _, _, rfl, _⟩, _, _, _⟩ := sub_elem L (hO.tree hj).1 hc hv
  refine pLh (.int .i64 (get x)) hg ?_ k h1 hd
  unfold readCells
  rw [ha]
  show (c1 ++ ([V.int .i64 (get x)] ++ c3))[i.toNat * GoT.sz α + off]? = some _
  rw [← hl, List.getElem?_append_right (Nat.le_refl _), Nat.sub_self]; rfl
end steps

end Go.Proofs.Ytblodpbcinkehaa.K
