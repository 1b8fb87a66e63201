/-
  Steps of a run on mutable values, by reference and on own ones. No conditions.
-/
import Derived.Test.YtblodpbcinkehaaKzb
set_option linter.unusedVariables false
set_option linter.unusedSimpArgs false
namespace Go.Proofs.Ytblodpbcinkehaa.K

section steps
variable {P : Program} {h : Hints} {fk n base : Nat} {lk : Lk} {c : Cx} {ops : Array Oper} {s kk : Bool} {d : Nat} {ty : TypeId} {pos : String} {aft : Array Edge} {l : List (Bool × Bool × Oper)} {Q : St → Prop} {T : Nat → V} {G G' H H0 : Heap} {rs : List Res} {op : Op} {S F : List Nat}
variable {α β : Type} [GoT α] [GoM α] [GoT β] [GoM β]
/-- The place of an element of a mutable list. -/
theorem pXT {xs : List α} {i : Int} {x : α} {t e : TypeId} {y z : Operand} {kd : IntKind} {v : V} (hO : Owns H G rs) (j : Nat) (hc : getI xs i = some x) (he : elemT P t = some e) (hz : szOf P e = some (GoT.sz α)) (k : ∀ b, v = .sl b 0 xs.length → wpR (cxL P h fk n base lk) ops l ⟨upd T d (.ptr b (i.toNat * GoT.sz α)), G⟩ Q)
    (h1 : ev T y = some v := by rfl) (h2 : ev T z = some (.int kd i) := by rfl) (hj : rs[j]? = some (Tree S F xs [v]) := by rfl) (hd : Nat.blt d n = true := by rfl) :
    wpR (cxL P h fk n base lk) ops ((s, kk, ⟨some d, .indexAddr t y z, ty, pos, aft, none⟩) :: l) ⟨T, G⟩ Q := by
  obtain ⟨b, cells, F', rfl, _⟩ := tr_open (hO.tree hj).1 hc
  refine pV ?_ hd (k b rfl)
  rw [opV_indexAddr]
  show (elemT P t).bind _ = _
  rw [he, Option.bind_some]
  show (szOf P e).bind _ = _
  simp only [hz, h1, h2, Option.bind_some, asInt, idxP, lenK]
  rw [if_pos (getI_lt hc)]
  simp
theorem pLenT {xs : List α} {x : Operand} {t : TypeId} {v : V} (hO : Owns H G rs) (j : Nat) (ht : strT P t = some false) (k : wpR (cxL P h fk n base lk) ops l ⟨upd T d (.int .i64 xs.length), G⟩ Q) (h1 : ev T x = some v := by rfl) (hj : rs[j]? = some (Tree S F xs [v]) := by rfl) (hd : Nat.blt d n = true := by rfl) :
    wpR (cxL P h fk n base lk) ops ((s, kk, ⟨some d, .call ⟨.builtin .len, #[x], #[t]⟩, ty, pos, aft, none⟩) :: l) ⟨T, G⟩ Q := by
  refine pLen (b := false) (a := v) ht k h1 ?_ hd
  have := len_tr (hO.tree hj).1
  cases v <;> first | exact this | simp [lenK] at this
theorem store_any {sz m off b : Nat} {t : TypeId} {y z : Operand} {w : V} (hz : szOf P t = some m) {cells : List V} (hm : ((cxL P h fk n base lk).care s kk).mayWrite b = true)
    (hgv : (if b < base then (if h.grow fk then if cleanG 1 w then some (w, G) else none else giveV base depthK G w) else some (w, G)) = some (w, G)) (hg : G[b]? = some (.cells sz cells)) (hf : off + w.cellsOf.length ≤ cells.length) (hl : w.cellsOf.length = m) (hc : w.cellsOf.all V.isCell = true)
    (h1 : ev T y = some (.ptr b off)) (h2 : ev T z = some w) : opV ((cxL P h fk n base lk).care s kk) (.store t y z) ⟨T, G⟩ = some (undefV, G.set b (.cells sz (splice cells off w.cellsOf))) := by
  rw [opV_store]
  simp only [h1, h2, Option.bind_some, storeK]
  rw [if_pos hm]
  have e : (if b < ((cxL P h fk n base lk).care s kk).base then (if ((cxL P h fk n base lk).care s kk).hints.grow ((cxL P h fk n base lk).care s kk).fn then if cleanG 1 w then some (w, G) else none else giveV ((cxL P h fk n base lk).care s kk).base depthK G w) else some (w, G)) = some (w, G) := hgv
  rw [e]
  simp only [Option.bind_some, hg]
  rw [if_pos ⟨by rw [hl]; exact hz, hf, hc⟩]
  rfl
/-- A scalar comes into a place of a mutable list that came by reference. -/
theorem pST {get : α → β} {set : α → β → α} {off b : Nat} (L : Foc α β get set off) {xs : List α} {i : Int} {x : α} {t : TypeId} {y z : Operand} {v w : V} {y' : β} (hO : Owns H G rs) (j : Nat) (hv : v = .sl b 0 xs.length) (hc : getI xs i = some x) (hz : szOf P t = some (GoT.sz β)) (hw : ∀ G, GoM.tr G y' [w] [])
    (hFr : Sees H0 H S) (hS : ∀ b ∈ S, unlocked lk b = true) (hb : base = H0.length) (k : ∀ H' G', Sees H0 H' S → Owns H' G' (rs.set j (Tree S F (xs.set i.toNat (set x y')) [v])) → wpR (cxL P h fk n base lk) ops l ⟨T, G'⟩ Q)
    (h1 : ev T y = some (.ptr b (i.toNat * GoT.sz α + off)) := by rfl) (h2 : ev T z = some w := by rfl) (hg : h.grow fk = false := by rfl) (hgv : giveV base depthK G w = some (w, G) := by rfl) (h3 : w.cellsOf = [w] := by rfl) (hj : rs[j]? = some (Tree S F xs [v]) := by rfl) :
    wpR (cxL P h fk n base lk) ops ((s, kk, ⟨none, .store t y z, ty, pos, aft, none⟩) :: l) ⟨T, G⟩ Q := by
  obtain ⟨ht, hbd⟩ := hO.tree hj
  obtain ⟨cells, hbF, hgb, hfit, hcell, hput⟩ := tree_put (F2 := []) L ht hc hv ⟨[], .nil, fun _ h => h, hw G⟩ (fun _ h => by cases h)
  have hlt := (List.getElem?_eq_some_iff.1 hgb).1
  have hlw : [w].length = GoT.sz β := GoM.len (hw G)
  rw [List.append_nil] at hput
  have hs : ∀ c, c ∉ F → (G.set b (.cells (GoT.sz α) (splice cells (i.toNat * GoT.sz α + off) [w])))[c]? = G[c]? := fun c hc => by
    rw [set_get, if_neg]
    rintro ⟨rfl, _⟩; exact hc hbF
  refine pV0 (store_any hz ?_ ?_ hgb (by rw [h3]; exact hfit) (by rw [h3]; exact hlw) (by rw [h3]; exact hcell) h1 h2) (k _ _ (hFr.chg hO hj (List.length_set ..) hs) ?_)
  · have hbb : base = H.length := hb.trans hFr.1.symm
    subst hbb
    exact ref_may hS (hbd b hbF).2
  · rw [hg, hgv]; simp
  · rw [h3]
    exact hO.chg hj (List.length_set ..) hs fun G2 h2 => hput.mono h2
/-- The same in an own one. -/
theorem pSTo {get : α → β} {set : α → β → α} {off b : Nat} (L : Foc α β get set off) {xs : List α} {i : Int} {x : α} {t : TypeId} {y z : Operand} {v w : V} {y' : β} (hO : Owns H G rs) (j : Nat) (hv : v = .sl b 0 xs.length) (hc : getI xs i = some x) (hz : szOf P t = some (GoT.sz β)) (hw : ∀ G, GoM.tr G y' [w] [])
    (hb : base = H.length) (k : ∀ G', Owns H G' (rs.set j (Tree [] F (xs.set i.toNat (set x y')) [v])) → wpR (cxL P h fk n base lk) ops l ⟨T, G'⟩ Q)
    (h1 : ev T y = some (.ptr b (i.toNat * GoT.sz α + off)) := by rfl) (h2 : ev T z = some w := by rfl) (h3 : w.cellsOf = [w] := by rfl) (hj : rs[j]? = some (Tree [] F xs [v]) := by rfl) :
    wpR (cxL P h fk n base lk) ops ((s, kk, ⟨none, .store t y z, ty, pos, aft, none⟩) :: l) ⟨T, G⟩ Q := by
  obtain ⟨ht, hbd⟩ := hO.tree hj
  obtain ⟨cells, hbF, hgb, hfit, hcell, hput⟩ := tree_put (F2 := []) L ht hc hv ⟨[], .nil, fun _ h => h, hw G⟩ (fun _ h => by cases h)
  have hlw : [w].length = GoT.sz β := GoM.len (hw G)
  rw [List.append_nil] at hput
  have hs : ∀ c, c ∉ F → (G.set b (.cells (GoT.sz α) (splice cells (i.toNat * GoT.sz α + off) [w])))[c]? = G[c]? := fun c hc => by
    rw [set_get, if_neg]
    rintro ⟨rfl, _⟩; exact hc hbF
  have hbb : ¬ b < base := fun h => by rw [hb] at h; cases (hbd b hbF).2 h
  refine pV0 (store_any hz ?_ (if_neg hbb) hgb (by rw [h3]; exact hfit) (by rw [h3]; exact hlw) (by rw [h3]; exact hcell) h1 h2) (k _ ?_)
  · unfold Cx.mayWrite
    simp only [Bool.or_eq_true, decide_eq_true_eq]
    exact .inl (Nat.not_lt.1 hbb)
  · rw [h3]
    exact hO.chgO hj (List.length_set ..) hs fun G2 h2 => hput.mono h2
/-- A mutable value that was got comes into an own mutable list. -/
theorem pSTT {b : Nat} {xs : List α} {i : Int} {x y' : α} {t : TypeId} {y z : Operand} {v w : V} {F2 : List Nat} {cs : List V} (hO : Owns H G (Tree [] F2 y' cs :: rs)) (j : Nat) (hv : v = .sl b 0 xs.length) (hc : getI xs i = some x) (hz : szOf P t = some (GoT.sz α))
    (hb : base = H.length) (k : ∀ G', Owns H G' (rs.set j (Tree [] (F ++ F2) (xs.set i.toNat y') [v])) → wpR (cxL P h fk n base lk) ops l ⟨T, G'⟩ Q)
    (h1 : ev T y = some (.ptr b (i.toNat * GoT.sz α)) := by rfl) (h2 : ev T z = some w := by rfl) (h3 : w.cellsOf = cs := by rfl) (hj : rs[j]? = some (Tree [] F xs [v]) := by rfl) :
    wpR (cxL P h fk n base lk) ops ((s, kk, ⟨none, .store t y z, ty, pos, aft, none⟩) :: l) ⟨T, G⟩ Q := by
  have hj' : (Tree [] F2 y' cs :: rs)[j + 1]? = some (Tree [] F xs [v]) := hj
  obtain ⟨ht, hbd⟩ := hO.tree hj'
  obtain ⟨ht2, hbd2⟩ := hO.tree (j := 0) (F := F2) (S := []) rfl
  obtain ⟨hj1, hj2⟩ := List.getElem?_eq_some_iff.1 hj
  have hap : ∀ c ∈ F2, c ∉ F := fun c hc hc' => (List.pairwise_cons.1 hO.apart).1 _ (List.mem_of_getElem? hj) c hc hc'
  obtain ⟨cells, hbF, hgb, hfit, hcell, hput⟩ := tree_put Foc.all ht hc hv ht2 hap
  obtain ⟨hlw, _⟩ := ht2.cells
  have hbb : ¬ b < base := fun h => by rw [hb] at h; cases (hbd b hbF).2 h
  have hs : ∀ c, c ∉ F → (G.set b (.cells (GoT.sz α) (splice cells (i.toNat * GoT.sz α + 0) cs)))[c]? = G[c]? := fun c hc => by
    rw [set_get, if_neg]
    rintro ⟨rfl, _⟩; exact hc hbF
  subst h3
  refine pV0 (store_any hz ?_ (if_neg hbb) hgb (by simpa using hfit) hlw hcell h1 h2) (k _ ?_)
  · unfold Cx.mayWrite
    simp only [Bool.or_eq_true, decide_eq_true_eq]
    exact .inl (Nat.not_lt.1 hbb)
  · obtain ⟨hO1, hO2, hO3, hO4⟩ := hO
    have hlt := (List.getElem?_eq_some_iff.1 hgb).1
    have hp := List.pairwise_iff_getElem.1 (List.pairwise_cons.1 hO4).2
    refine ⟨fun c hc => ?_, by rw [List.length_set]; exact hO2, fun r hr => ?_, ?_⟩
    · rw [set_get, if_neg]
      · exact hO1 c hc
      · rintro ⟨rfl, _⟩; exact hbb (by rw [hb]; exact hc)
    · obtain ⟨q, hq, e⟩ := List.mem_iff_getElem.1 hr
      rw [List.length_set] at hq
      rw [List.getElem_set] at e
      split at e
      · subst e
        refine tree_ok hput fun c hc => ?_
        rw [List.length_set]
        rcases List.mem_append.1 hc with hc | hc
        · exact hbd c hc
        · exact hbd2 c hc
      · rename_i hjq
        subst e
        refine Res.ok_mono (hO3 _ (List.mem_cons_of_mem _ (List.getElem_mem hq))) fun c hc => hs c fun hcF => ?_
        rcases Nat.lt_or_ge q j with h | h
        · exact hp q j hq hj1 h c hc (by rw [hj2]; exact hcF)
        · exact hp j q hj1 hq (by omega) c (by rw [hj2]; exact hcF) hc
    · rw [List.pairwise_iff_getElem]
      have key : ∀ q (hq : q < rs.length), q ≠ j → ∀ c ∈ F ++ F2, c ∉ rs[q].nums := fun q hq hqj c hc hc' => by
        rcases List.mem_append.1 hc with hc | hc
        · rcases Nat.lt_or_ge q j with h | h
          · exact hp q j hq hj1 h c hc' (by rw [hj2]; exact hc)
          · exact hp j q hj1 hq (by omega) c (by rw [hj2]; exact hc) hc'
        · exact (List.pairwise_cons.1 hO4).1 _ (List.getElem_mem hq) c hc hc'
      intro p q hp' hq' hpq c hc hc'
      rw [List.length_set] at hp' hq'
      rw [List.getElem_set] at hc hc'
      split at hc
      · rename_i e; subst e
        rw [if_neg (by omega)] at hc'
        exact key q hq' (by omega) c hc hc'
      · split at hc'
        · rename_i e; subst e
          exact key p hp' (by omega) c hc' hc
        · exact hp p q hp' hq' hpq c hc hc'
/-- A mutable part of an element is loaded. -/
theorem pLT {γ : Type} [GoT γ] [GoM γ] {get : α → List γ} {set : α → List γ → α} {off b : Nat} (L : Foc α (List γ) get set off) {xs : List α} {i : Int} {x : α} {t : TypeId} {y : Operand} {v : V} (hO : Owns H G rs) (j : Nat) (hv : v = .sl b 0 xs.length) (hc : getI xs i = some x) (ha : aggT P t = some false)
    (k : ∀ u Fs, Sub G (fun G' y => TrIn G' (xs.set i.toNat (set x y)) [v] F) F [u] Fs (get x) → wpR (cxL P h fk n base lk) ops l ⟨upd T d u, G⟩ Q) (h1 : ev T y = some (.ptr b (i.toNat * GoT.sz α + off)) := by rfl) (hj : rs[j]? = some (Tree S F xs [v]) := by rfl) (hd : Nat.blt d n = true := by rfl) :
    wpR (cxL P h fk n base lk) ops ((s, kk, ⟨some d, .load t y, ty, pos, aft, none⟩) :: l) ⟨T, G⟩ Q := by
  obtain ⟨cells, c1, c2, c3, Fs, hg, rfl, hl, hl2, hs⟩ := sub_elem L (hO.tree hj).1 hc hv
  obtain ⟨u, rfl⟩ := List.length_eq_one_iff.1 (show c2.length = 1 from hl2)
  refine pLh u hg ?_ (k u Fs hs) h1 hd
  unfold readCells
  rw [ha]
  show (c1 ++ ([u] ++ c3))[i.toNat * GoT.sz α + off]? = some u
  rw [← hl, List.getElem?_append_right (Nat.le_refl _), Nat.sub_self]; rfl
/-- A mutable part of a struct, which lies in an own block. -/
theorem pLTs {γ : Type} [GoT γ] [GoM γ] {get : α → List γ} {set : α → List γ → α} {off b m : Nat} (L : Foc α (List γ) get set off) {x : α} {cs : List V} {t : TypeId} {y : Operand} (hO : Owns H G rs) (jb j : Nat) (ha : aggT P t = some false)
    (k : ∀ u Fs, Sub G (fun G' y => TrIn G' (set x y) cs F) F [u] Fs (get x) → wpR (cxL P h fk n base lk) ops l ⟨upd T d u, G⟩ Q) (h1 : ev T y = some (.ptr b off) := by rfl) (hjb : rs[jb]? = some (.blk b (.cells m cs)) := by rfl) (hj : rs[j]? = some (Tree S F x cs) := by rfl) (hd : Nat.blt d n = true := by rfl) :
    wpR (cxL P h fk n base lk) ops ((s, kk, ⟨some d, .load t y, ty, pos, aft, none⟩) :: l) ⟨T, G⟩ Q := by
  obtain ⟨c1, c2, c3, Fs, rfl, hl, hl2, hs⟩ := sub_struct L (hO.tree hj).1
  obtain ⟨u, rfl⟩ := List.length_eq_one_iff.1 (show c2.length = 1 from hl2)
  refine pLh u (hO.get hjb).1 ?_ (k u Fs hs) h1 hd
  unfold readCells
  rw [ha]
  show (c1 ++ ([u] ++ c3))[off]? = some u
  rw [← hl, List.getElem?_append_right (Nat.le_refl _), Nat.sub_self]; rfl
theorem pLTa {get : α → β} {set : α → β → α} {off b m : Nat} (L : Foc α β get set off) {x : α} {cs : List V} {t : TypeId} {y : Operand} (hO : Owns H G rs) (jb j : Nat) (ha : aggT P t = some true) (hz : szOf P t = some (GoT.sz β))
    (k : ∀ cs2 Fs, Sub G (fun G' y => TrIn G' (set x y) cs F) F cs2 Fs (get x) → wpR (cxL P h fk n base lk) ops l ⟨upd T d (.agg cs2), G⟩ Q) (h1 : ev T y = some (.ptr b off) := by rfl) (hjb : rs[jb]? = some (.blk b (.cells m cs)) := by rfl) (hj : rs[j]? = some (Tree S F x cs) := by rfl) (hd : Nat.blt d n = true := by rfl) :
    wpR (cxL P h fk n base lk) ops ((s, kk, ⟨some d, .load t y, ty, pos, aft, none⟩) :: l) ⟨T, G⟩ Q := by
  obtain ⟨c1, c2, c3, Fs, rfl, hl, hl2, hs⟩ := sub_struct L (hO.tree hj).1
  refine pLh (.agg c2) (hO.get hjb).1 ?_ (k c2 Fs hs) h1 hd
  unfold readCells
  simp only [ha, hz, Option.bind_some]
  rw [if_pos (by simp only [List.length_append]; omega), ← hl, List.drop_left' rfl, ← hl2, List.take_left' rfl]
/-- A struct that bears mutable lists comes into an own block. -/
theorem pBoxT {x : α} {cs : List V} {t : TypeId} {y : Operand} (hO : Owns H G rs) (j : Nat) (hz : szOf P t = some (GoT.sz α)) (k : ∀ b G', Owns H G' (.blk b (.cells (GoT.sz α) cs) :: rs) → wpR (cxL P h fk n base lk) ops l ⟨upd T d (.ptr b 0), G'⟩ Q) (h1 : ev T y = some (.agg cs) := by rfl) (hj : rs[j]? = some (Tree S F x cs) := by rfl) (hd : Nat.blt d n = true := by rfl) :
    wpR (cxL P h fk n base lk) ops ((s, kk, ⟨some d, .box t y, ty, pos, aft, none⟩) :: l) ⟨T, G⟩ Q := by
  obtain ⟨e1, e2⟩ := (hO.tree hj).1.cells
  refine pV ?_ hd (k _ _ (hO.alloc (.cells (GoT.sz α) cs)))
  rw [opV_box]
  show (szOf P t).bind _ = _
  simp only [hz, h1, Option.bind_some, V.cellsOf, e2, if_true]
/-- Texts that are put together. -/
def catB (a b : ByteArray) : Option ByteArray := if a.size + b.size ≤ 1099511627776 then some (a ++ b) else none
theorem pCat {t t2 : TypeId} {x y : Operand} {a b cc : ByteArray} (hc : catB a b = some cc) (k : wpR (cxL P h fk n base lk) ops l ⟨upd T d (.str cc), G⟩ Q) (h1 : ev T x = some (.str a) := by rfl) (h2 : ev T y = some (.str b) := by rfl) (hd : Nat.blt d n = true := by rfl) :
    wpR (cxL P h fk n base lk) ops ((s, kk, ⟨some d, .binOp .add t x y t2, ty, pos, aft, none⟩) :: l) ⟨T, G⟩ Q := by
  refine pB k h1 h2 ?_ hd
  unfold catB at hc
  split at hc
  · rename_i hr
    simp only [Option.some.injEq] at hc
    subst hc
    exact if_pos hr
  · cases hc
/-- One byte. -/
structure U8 where
  n : Int
instance : GoT U8 := ⟨1, Nat.one_pos, fun _ x => [.int .u8 x.n], fun _ => rfl, fun _ _ => rfl, fun _ => rfl⟩
def bytesU (ys : List U8) : ByteArray := ys.foldl (fun r y => r.push (UInt8.ofNat y.n.toNat)) ByteArray.empty
theorem bytesV_u : ∀ (ys : List U8) (acc : ByteArray), bytesV acc ((flatL 0) ys) = some (ys.foldl (fun r y => r.push (UInt8.ofNat y.n.toNat)) acc)
  | [], acc => rfl
  | y :: ys, acc => by
    show bytesV (acc.push (UInt8.ofNat y.n.toNat)) ((flatL 0) ys) = _
    rw [bytesV_u ys]; rfl
theorem pCvB {src dst e : TypeId} {x : Operand} {ys : List U8} (h1 : P.underlying src = some (.slice e)) (h2 : P.underlying dst = some .string) (he : P.underlying e = some (.int .u8)) (k : wpR (cxL P h fk n base lk) ops l ⟨upd T d (.str (bytesU ys)), G⟩ Q)
    (hx : ev T x = some (.tl ys.length ((flatL 0) ys)) := by rfl) (hd : Nat.blt d n = true := by rfl) :
    wpR (cxL P h fk n base lk) ops ((s, kk, ⟨some d, .convert src dst x, ty, pos, aft, none⟩) :: l) ⟨T, G⟩ Q := by
  refine pV ?_ hd k
  unfold opV opK
  have h1' : ((cxL P h fk n base lk).care s kk).P.underlying src = some (.slice e) := h1
  have h2' : ((cxL P h fk n base lk).care s kk).P.underlying dst = some .string := h2
  have he' : u8T ((cxL P h fk n base lk).care s kk).P e = true := by unfold u8T; rw [show ((cxL P h fk n base lk).care s kk).P.underlying e = some (.int .u8) from he]
  simp only [h1', h2', hx]
  rw [if_pos ⟨by rw [flat_len]; show _ = ys.length * 1; omega, he'⟩, bytesV_u]
  rfl
end steps

end Go.Proofs.Ytblodpbcinkehaa.K
