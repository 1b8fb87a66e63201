/-
  Structs with mutable lists in own blocks; elements that are given up when they come into a list. No conditions.
-/
import Derived.Test.YtblodpbcinkehaaKzf
set_option linter.unusedVariables false
set_option linter.unusedSimpArgs false
namespace Go.Proofs.Ytblodpbcinkehaa.K

section steps
variable {P : Program} {h : Hints} {fk n base : Nat} {lk : Lk} {c : Cx} {ops : Array Oper} {s kk : Bool} {d : Nat} {ty : TypeId} {pos : String} {aft : Array Edge} {l : List (Bool × Bool × Oper)} {Q : St → Prop} {T : Nat → V} {G G' H H0 : Heap} {rs rs' rs1 : List Res} {op : Op} {S F F2 : List Nat}
variable {α : Type} [GoT α]
/-- A struct that bears mutable lists is stored into an own block, is loaded out of it. -/
theorem pStS [GoM α] {x : α} {cs old : List V} {t : TypeId} {y z : Operand} {b sz : Nat} (hO : Owns H G rs) (jb j : Nat) (hz : szOf P t = some (GoT.sz α)) (hb : base = H.length) (k : ∀ G', Owns H G' (rs.set jb (.blk b (.cells sz cs))) → wpR (cxL P h fk n base lk) ops l ⟨T, G'⟩ Q)
    (h1 : ev T y = some (.ptr b 0) := by rfl) (h2 : ev T z = some (.agg cs) := by rfl) (hjb : rs[jb]? = some (.blk b (.cells sz old)) := by rfl) (hj : rs[j]? = some (Tree S F x cs) := by rfl) (hold : old.length = GoT.sz α := by rfl) :
    wpR (cxL P h fk n base lk) ops ((s, kk, ⟨none, .store t y z, ty, pos, aft, none⟩) :: l) ⟨T, G⟩ Q := by
  subst hb
  obtain ⟨e1, e2⟩ := tr_cells hO hj
  obtain ⟨hg, hbb⟩ := hO.get hjb
  have hlt : b < G.length := (List.getElem?_eq_some_iff.1 hg).1
  have e3 : splice old 0 cs = cs := by
    unfold splice
    rw [List.take_zero, Nat.zero_add, List.drop_of_length_le (by omega)]; simp
  have hst := store_any (P := P) (h := h) (fk := fk) (n := n) (lk := lk) (s := s) (kk := kk) (base := H.length) (T := T) (G := G) (off := 0) (sz := sz) (y := y) (z := z) (w := .agg cs) hz (cells := old) (b := b) (by unfold Cx.mayWrite; simp only [Bool.or_eq_true, decide_eq_true_eq]; exact .inl hbb) (if_neg (Nat.not_lt.2 hbb)) hg (by show 0 + cs.length ≤ _; omega) e1 e2 h1 h2
  refine pV0 hst (k _ ?_)
  show Owns H (G.set b (.cells sz (splice old 0 cs))) _
  rw [e3]
  exact hO.set hjb rfl rfl ⟨hbb, by rw [set_get, if_pos ⟨rfl, hlt⟩]⟩
theorem pLdS [GoM α] {x : α} {cs : List V} {t : TypeId} {y : Operand} {b sz : Nat} (hO : Owns H G rs) (jb j : Nat) (ha : aggT P t = some true) (hz : szOf P t = some (GoT.sz α)) (k : wpR (cxL P h fk n base lk) ops l ⟨upd T d (.agg cs), G⟩ Q)
    (h1 : ev T y = some (.ptr b 0) := by rfl) (hjb : rs[jb]? = some (.blk b (.cells sz cs)) := by rfl) (hj : rs[j]? = some (Tree S F x cs) := by rfl) (hd : Nat.blt d n = true := by rfl) :
    wpR (cxL P h fk n base lk) ops ((s, kk, ⟨some d, .load t y, ty, pos, aft, none⟩) :: l) ⟨T, G⟩ Q := by
  obtain ⟨e1, e2⟩ := tr_cells hO hj
  refine pLh (.agg cs) (hO.get hjb).1 ?_ k h1 hd
  unfold readCells
  simp only [ha, hz, Option.bind_some]
  rw [if_pos (by omega), List.drop_zero, ← e1, List.take_length]

/-! ### Elements that are given up -/
def GvL (n : Nat) (H : Heap) (rs : List Res) (cs cs' : List V) (rs' : List Res) : Prop := ∀ G, Owns H G rs → ∀ k, ∃ G2, giveV.giveL (giveV H.length (k + n)) G cs = some (cs', G2) ∧ Owns H G2 rs'
def GvV (n : Nat) (H : Heap) (rs : List Res) (v v' : V) (rs' : List Res) : Prop := ∀ G, Owns H G rs → ∀ k, ∃ G2, giveV H.length (k + n) G v = some (v', G2) ∧ Owns H G2 rs'
theorem gv_int (kd : IntKind) (x : Int) : GvV 2 H rs (.int kd x) (.int kd x) rs := fun G hO k => ⟨G, rfl, hO⟩
theorem gv_bool (x : Bool) : GvV 2 H rs (.bool x) (.bool x) rs := fun G hO k => ⟨G, rfl, hO⟩
theorem gv_str (x : ByteArray) : GvV 2 H rs (.str x) (.str x) rs := fun G hO k => ⟨G, rfl, hO⟩
theorem gv_lit (xs : List α) : GvV 2 H rs (.lit 0 xs.length ((flatL 0) xs)) (.lit 0 xs.length ((flatL 0) xs)) rs := fun G hO k => ⟨G, by rw [giveV, if_pos (by simp only [clean, flat_clean, beq_self_eq_true, Bool.true_or, Bool.true_and])], hO⟩
theorem gv_tl (α : Type) [GoT α] : GvV 2 H rs (.tl 0 []) (.lit 0 ([] : List α).length ((flatL 0) ([] : List α))) rs := fun G hO k => ⟨G, by rw [giveV]; rfl, hO⟩
theorem gv_own {xs : List α} {v : V} {dd sz : Nat} (j : Nat) (hj : rs[j]? = some (.own v dd sz xs.length ((flatL 0) xs)) := by rfl) : GvV 2 H rs v (.lit 0 xs.length ((flatL 0) xs)) (rs.eraseIdx j) := fun G hO k => by
  have hcl := fun G => giveL_clean (lo := H.length) (k := k) (H := G) ((flatL 0) xs) (flat_clean xs) (flat_cell xs)
  rcases (hO.own hj).2 with rfl | ⟨b, rfl, hbb, hgb⟩
  · exact ⟨G, by rw [giveV, hcl]; rfl, hO.drop (List.eraseIdx_sublist _ _)⟩
  · refine ⟨G.set b .dead, ?_, hO.kill hj rfl⟩
    rw [giveV]
    simp only [hgb]
    rw [if_neg (by omega), hcl]; rfl
theorem gv_made {xs : List α} {b sz m : Nat} (hl : xs.length = m) (j : Nat) (hsz : sz = GoT.sz α := by rfl) (hj : rs[j]? = some (.blk b (.cells sz ((flatL 0) xs))) := by rfl) : GvV 2 H rs (.sl b 0 m) (.lit 0 xs.length ((flatL 0) xs)) (rs.eraseIdx j) := fun G hO k => by
  subst hl hsz
  obtain ⟨hgb, hbb⟩ := hO.get hj
  have e0 : ¬ (((flatL 0) xs).length < 0 + xs.length * GoT.sz α) := by rw [flat_len]; omega
  have e1 : (List.drop 0 ((flatL 0) xs)).take (xs.length * GoT.sz α) = (flatL 0) xs := by rw [List.drop_zero]; exact List.take_of_length_le (by rw [flat_len]; exact Nat.le_refl _)
  refine ⟨G.set b .dead, ?_, hO.kill hj rfl⟩
  rw [giveV]
  simp only [hgb]
  rw [if_neg (by omega), e1, giveL_clean _ (flat_clean xs) (flat_cell xs)]
  rfl
theorem gv_n : GvL 2 H rs [] [] rs := fun G hO k => ⟨G, rfl, hO⟩
theorem gv_c {v v' : V} {vs vs' : List V} (h1 : GvV 2 H rs v v' rs1) (h2 : GvL 2 H rs1 vs vs' rs') : GvL 2 H rs (v :: vs) (v' :: vs') rs' := fun G hO k => by
  obtain ⟨G1, e1, o1⟩ := h1 G hO k
  obtain ⟨G2, e2, o2⟩ := h2 G1 o1 k
  exact ⟨G2, by simp only [giveV.giveL, e1, Option.bind_some, e2, Option.map_some], o2⟩
theorem gv_agg {cs cs' : List V} (h : GvL 2 H rs cs cs' rs') : GvV 3 H rs (.agg cs) (.agg cs') rs' := fun G hO k => by
  obtain ⟨G2, e, o⟩ := h G hO k
  exact ⟨G2, by rw [giveV, e]; rfl, o⟩
/-- One element, which is given up, as a list. -/
theorem pBsG {t e : TypeId} {x : Operand} {v v' : V} {z : List V} {m : Nat} (y : α) (hO : Owns H G rs) (hgv : GvV m H rs v v' rs') (he : elemT P t = some e) (hz : szOf P e = some (GoT.sz α)) (hz0 : zeroOf P e = some z) (hb : base = H.length) (k : ∀ G', Owns H G' rs' → wpR (cxL P h fk n base lk) ops l ⟨upd T d (.tl ([y] : List α).length ((flatL 0) [y])), G'⟩ Q)
    (hv : v'.cellsOf = GoT.encL 0 y := by rfl) (hzl : z.length = GoT.sz α := by rfl) (hm : Nat.ble (1 * GoT.sz α) 1048576 = true := by rfl) (hmd : Nat.ble m depthK = true := by rfl) (hkp : h.keep fk = false := by rfl) (hs : s = false := by rfl) (h1 : ev T x = some v := by rfl) (hd : Nat.blt d n = true := by rfl) :
    wpR (cxL P h fk n base lk) ops ((s, kk, ⟨some d, .buildSlice t 1 #[(0, x)], ty, pos, aft, none⟩) :: l) ⟨T, G⟩ Q := by
  subst hb hs
  obtain ⟨G2, eg, o⟩ := hgv G hO (depthK - m)
  rw [Nat.sub_add_cancel (Nat.le_of_ble_eq_true hmd)] at eg
  refine pV ?_ hd (k G2 o)
  unfold opV opK
  simp only []
  show (evP T [(0, x)]).bind _ = _
  simp only [evP, h1, Option.bind_some, Option.map_some]
  have e1 : embedL ((cxL P h fk n H.length lk).care false kk) G [(0, v)] = some ([(0, v')], G2) := by
    simp only [embedL, embed]
    rw [show ((cxL P h fk n H.length lk).care false kk).hints.keep ((cxL P h fk n H.length lk).care false kk).fn = false from hkp]
    show (giveV H.length depthK G v).bind _ = _
    rw [eg]
    rfl
  rw [e1]
  simp only [Option.bind_some]
  show (elemT P t).bind _ = _
  rw [he]
  show (szOf P e).bind _ = _
  rw [hz]
  show (zeroOf P e).bind _ = _
  rw [hz0]
  simp only [Option.bind_some]
  have hp : 0 < GoT.sz α := GoT.pos
  rw [if_pos ⟨hzl, by omega, Nat.le_of_ble_eq_true hm⟩]
  have e2 : (List.replicate 1 z).flatten = z := by simp
  have e3 : splice z (0 * GoT.sz α) (GoT.encL 0 y) = GoT.encL 0 y := by
    unfold splice
    rw [Nat.zero_mul, List.take_zero, Nat.zero_add, List.drop_of_length_le (by rw [GoT.len]; omega)]; simp
  simp only [e2, partsK, hv]
  rw [if_neg (by rw [GoT.cell, GoT.len]; simp; omega), e3]
  simp [flatL]
end steps

end Go.Proofs.Ytblodpbcinkehaa.K
