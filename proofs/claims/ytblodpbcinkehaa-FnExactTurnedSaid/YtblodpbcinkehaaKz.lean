/-
  Steps of a run, by reference: blocks that came from outside and may be written. No conditions.
-/
import Derived.Test.YtblodpbcinkehaaKx
set_option linter.unusedVariables false
set_option linter.unusedSimpArgs false
namespace Go.Proofs.Ytblodpbcinkehaa.K

/-- What lies outside, as it has changed: at the numbers S alone. -/
def Sees (H0 H : Heap) (S : List Nat) : Prop := H.length = H0.length ∧ ∀ x, x ∉ S → H[x]? = H0[x]?
theorem Sees.refl (H : Heap) (S : List Nat) : Sees H H S := ⟨rfl, fun _ _ => rfl⟩
theorem Sees.set {H0 H : Heap} {S : List Nat} (h : Sees H0 H S) {n : Nat} (hn : n < H.length → n ∈ S) (x : Blk) : Sees H0 (H.set n x) S :=
  ⟨by rw [List.length_set]; exact h.1, fun y hy => by rw [set_get, if_neg (by rintro ⟨rfl, hl⟩; exact hy (hn hl))]; exact h.2 y hy⟩
/-- No lock is younger than the call. -/
def LkOk (lk : Lk) (n : Nat) : Prop := ∀ l ∈ lk, ∀ x ∈ l, x < n
theorem LkOk.push {lk : Lk} {n m : Nat} {L : List Nat} (h : LkOk lk n) (hn : n ≤ m) (hL : ∀ x ∈ L, x < m) : LkOk (lk ++ [L]) m := by
  intro l hl x hx
  rcases List.mem_append.1 hl with hl | hl
  · exact Nat.lt_of_lt_of_le (h l hl x hx) hn
  · simp only [List.mem_singleton] at hl
    subst hl
    exact hL x hx
theorem LkOk.free {lk : Lk} {n b : Nat} {L : List Nat} (h : LkOk lk n) (hb : n ≤ b) (hL : b ∉ L) : unlocked (lk ++ [L]) b = true := by
  unfold unlocked
  rw [List.all_eq_true]
  intro l hl
  simp only [Bool.not_eq_true', ← Bool.not_eq_true, List.contains_iff_mem]
  intro hx
  rcases List.mem_append.1 hl with hl | hl
  · exact absurd (h l hl b hx) (Nat.not_lt.2 hb)
  · simp only [List.mem_singleton] at hl
    subst hl
    exact hL hx

/-! ### A list that another holds in a box -/
/-- Block q holds the list o, which may be appended to; its builder has level d. -/
def BoxAt (H : Heap) (q : Nat) (o : V) (d sz n : Nat) (cells : List V) : Prop := H[q]? = some (.cells 1 [o]) ∧ cells.length = n * sz ∧ (o = .tl n cells ∨ ∃ b, o = .snap b n cells ∧ H[b]? = some (.bld d n sz))
def boxS (q : Nat) (o : V) : List Nat := q :: (match o with | .snap b _ _ => [b] | _ => [])
theorem box_start {H : Heap} {q d d1 sz n : Nat} {o : V} {cells : List V} (h : BoxAt H q o d sz n cells) : Owns H H [.fblk (boxS q o) q (.cells 1 [o]), .fown (boxS q o) o d d1 sz n cells] where
  pre := fun _ _ => rfl
  len := Nat.le_refl _
  ok := fun r hr => by
    obtain ⟨h1, h2, h3⟩ := h
    simp only [List.mem_cons, List.not_mem_nil, or_false] at hr
    rcases hr with rfl | rfl
    · exact ⟨fun _ => by simp [boxS], h1⟩
    · refine ⟨h2, ?_⟩
      rcases h3 with h3 | ⟨b, rfl, h3⟩
      · exact .inl h3
      · exact .inr ⟨b, d, rfl, h3, .inl ⟨(List.getElem?_eq_some_iff.1 h3).1, by simp [boxS], rfl⟩⟩
  apart := by
    obtain ⟨h1, h2, h3⟩ := h
    refine List.pairwise_cons.2 ⟨fun r hr x hx hx' => ?_, List.pairwise_singleton ..⟩
    simp only [List.mem_singleton] at hr
    subst hr
    simp only [Res.nums, List.mem_singleton] at hx
    subst hx
    rcases h3 with rfl | ⟨b, rfl, h3⟩
    · simp [Res.nums] at hx'
    · simp only [Res.nums, List.mem_singleton] at hx'
      subst hx'
      rw [h1] at h3
      cases h3

section steps
variable {P : Program} {h : Hints} {fk n base : Nat} {lk : Lk} {c : Cx} {ops : Array Oper} {s kk : Bool} {d : Nat} {ty : TypeId} {pos : String} {aft : Array Edge} {l : List (Bool × Bool × Oper)} {Q : St → Prop} {T : Nat → V} {G G' H H0 : Heap} {rs : List Res} {op : Op} {S : List Nat}
variable {α : Type} [GoT α]
/-- A load of one cell of a block by reference. -/
theorem pLr {t : TypeId} {x : Operand} {b off sz : Nat} {cs : List V} (hO : Owns H G rs) (j : Nat) (v : V) (ha : aggT P t = some false) (k : wpR (cxL P h fk n base lk) ops l ⟨upd T d v, G⟩ Q) (h1 : ev T x = some (.ptr b off) := by rfl) (hj : rs[j]? = some (.fblk S b (.cells sz cs)) := by rfl) (h2 : cs[off]? = some v := by rfl) (hd : Nat.blt d n = true := by rfl) :
    wpR (cxL P h fk n base lk) ops ((s, kk, ⟨some d, .load t x, ty, pos, aft, none⟩) :: l) ⟨T, G⟩ Q := by
  refine pLh v (hO.getF hj).1 ?_ k h1 hd
  unfold readCells
  simp only [ha, h2]
theorem ref_may (hS : ∀ b ∈ S, unlocked lk b = true) {b : Nat} (hb : b < H.length → b ∈ S) : ((cxL P h fk n H.length lk).care s kk).mayWrite b = true := by
  unfold Cx.mayWrite
  simp only [Bool.or_eq_true, decide_eq_true_eq]
  rcases Nat.lt_or_ge b H.length with hl | hl
  · exact .inr (hS b (hb hl))
  · exact .inl hl
/-- A store into a block by reference. -/
theorem pSr {t : TypeId} {x y : Operand} {b off sz m : Nat} {cs xs : List V} {v : V} (hO : Owns H G rs) (j : Nat) (hz : szOf P t = some m) (hFr : Sees H0 H S) (hS : ∀ b ∈ S, unlocked lk b = true) (hb : base = H0.length)
    (hgv : (if h.grow fk then if cleanG 1 v then some (v, G) else none else giveV H0.length depthK G v) = some (v, G))
    (k : ∀ H' G', Sees H0 H' S → Owns H' G' (rs.set j (.fblk S b (.cells sz (splice cs off xs)))) → wpR (cxL P h fk n base lk) ops l ⟨T, G'⟩ Q) (h1 : ev T x = some (.ptr b off) := by rfl) (hj : rs[j]? = some (.fblk S b (.cells sz cs)) := by rfl) (h2 : ev T y = some v := by rfl) (h3 : v.cellsOf = xs := by rfl) (h4 : xs.length = m := by rfl) (h5 : Nat.ble (off + m) cs.length = true := by rfl) (h6 : xs.all V.isCell = true := by rfl) :
    wpR (cxL P h fk n base lk) ops ((s, kk, ⟨none, .store t x y, ty, pos, aft, none⟩) :: l) ⟨T, G⟩ Q := by
  subst h3 h4
  have hbb : base = H.length := hb.trans hFr.1.symm
  obtain ⟨hg, hlo⟩ := hO.getF hj
  have hlt : b < G.length := (List.getElem?_eq_some_iff.1 hg).1
  have hO' := hO.setF (r' := .fblk S b (.cells sz (splice cs off v.cellsOf))) (x := .cells sz (splice cs off v.cellsOf)) hj rfl rfl ⟨hlo, by rw [set_get, if_pos ⟨rfl, hlt⟩]⟩
  refine pV0 (v := undefV) ?_ (k _ _ (hFr.set hlo _) hO')
  rw [opV_store]
  simp only [h1, h2, Option.bind_some, storeK]
  rw [← hb] at hgv
  subst hbb
  rw [if_pos (ref_may hS hlo)]
  have e : (if b < ((cxL P h fk n H.length lk).care s kk).base then (if ((cxL P h fk n H.length lk).care s kk).hints.grow ((cxL P h fk n H.length lk).care s kk).fn then if cleanG 1 v then some (v, G) else none else giveV ((cxL P h fk n H.length lk).care s kk).base depthK G v) else some (v, G)) = some (v, G) := by
    split
    · exact hgv
    · rfl
  rw [e]
  simp only [Option.bind_some, hg]
  rw [if_pos ⟨hz, Nat.le_of_ble_eq_true h5, h6⟩]
  rfl
theorem Owns.fown {dd d1 sz m j : Nat} {v : V} {cs : List V} (hO : Owns H G rs) (hj : rs[j]? = some (.fown S v dd d1 sz m cs)) : cs.length = m * sz ∧ (v = .tl m cs ∨ ∃ b l, v = .snap b m cs ∧ G[b]? = some (.bld l m sz) ∧ ((b < H.length ∧ b ∈ S ∧ l = dd) ∨ (H.length ≤ b ∧ l = d1))) := hO.ok _ (List.mem_of_getElem? hj)
theorem bears_fown {j dd d1 sz : Nat} {v : V} {xs : List α} (hO : Owns H G rs) (hj : rs[j]? = some (.fown S v dd d1 sz xs.length ((flatL 0) xs))) : Bears G v xs := by
  rcases (hO.fown hj).2 with rfl | ⟨b, l, rfl, _⟩
  · exact ⟨rfl, rfl⟩
  · exact ⟨rfl, rfl⟩
theorem ld_fown {xs : List α} {dd d1 sz : Nat} {v : V} (hO : Owns H G rs) (j : Nat) (lv : Nat) (hj : rs[j]? = some (.fown S v dd d1 sz xs.length ((flatL 0) xs)) := by rfl) : ∃ l, ∀ k, lendV lv G (k + 2) v = some (.lit l xs.length ((flatL 0) xs), []) := by
  rcases (hO.fown hj).2 with rfl | ⟨b, l, rfl, _⟩
  · exact ⟨lv, fun k => by rw [lendV, lendL_clean _ (flat_clean xs) (flat_cell xs)]; rfl⟩
  · exact ⟨lv, fun k => by rw [lendV, lendL_clean _ (flat_clean xs) (flat_cell xs)]; rfl⟩
theorem fown_cleanG {xs : List α} {j dd d1 sz : Nat} {v : V} (hO : Owns H G rs) (hj : rs[j]? = some (.fown S v dd d1 sz xs.length ((flatL 0) xs))) (dg : Nat) (hdg : 0 < dg) : cleanG dg v = true := by
  rcases (hO.fown hj).2 with rfl | ⟨b, l, rfl, _⟩
  · simp only [cleanG]; exact flat_cleanG hdg xs
  · simp only [cleanG]; exact flat_cleanG hdg xs
/-- 'append' to a list that another holds. -/
theorem pAr {st xt e e' : TypeId} {x y : Operand} {v w : V} {xs ys zs : List α} {by_ dd d1 sz : Nat} {z : List V} (hO : Owns H G rs) (j : Nat) (happ : appB by_ xs ys = some zs) (hy : Bears G w ys) (he : elemT P st = some e) (hz : szOf P e = some (GoT.sz α)) (hby : bytesOf P e = some by_) (hz0 : zeroOf P e = some z) (he' : elemT P xt = some e') (hFr : Sees H0 H S) (hS : ∀ b ∈ S, unlocked lk b = true) (hb : base = H0.length)
    (k : ∀ v' H' G', Sees H0 H' S → Owns H' G' (rs.set j (.fown S v' dd d1 (GoT.sz α) zs.length ((flatL 0) zs))) → wpR (cxL P h fk n base lk) ops l ⟨upd T d v', G'⟩ Q)
    (h1 : ev T x = some v := by rfl) (h2 : ev T y = some w := by rfl) (hzl : z.length = GoT.sz α := by rfl) (hj : rs[j]? = some (.fown S v dd d1 sz xs.length ((flatL 0) xs)) := by rfl) (hdd : d1 = lk.length := by rfl) (hsz : sz = GoT.sz α := by rfl) (hd : Nat.blt d n = true := by rfl) :
    wpR (cxL P h fk n base lk) ops ((s, kk, ⟨some d, .call ⟨.builtin .append, #[x, y], #[st, xt]⟩, ty, pos, aft, none⟩) :: l) ⟨T, G⟩ Q := by
  have hbb : base = H.length := hb.trans hFr.1.symm
  subst hbb hdd hsz
  obtain ⟨hl, hv⟩ := hO.fown hj
  unfold appB at happ
  split at happ
  case isFalse => cases happ
  rename_i hroom
  simp only [Option.some.injEq] at happ
  subst happ
  have start : ∀ r : Option (V × Heap), appendK ((cxL P h fk n H.length lk).care s kk) st xt G v w = r → opV ((cxL P h fk n H.length lk).care s kk) (.call ⟨.builtin .append, #[x, y], #[st, xt]⟩) ⟨T, G⟩ = r := by
    intro r hr
    rw [opV_append]
    simp only [h1, h2, Option.bind_some]
    exact hr
  have hx' : (elemT P xt).isSome = true := by rw [he']; rfl
  have hap1 := fun m cs => ap_tl (c := (cxL P h fk n H.length lk).care s kk) (m := m) (cs := cs) hy he hz hby hz0 hx' hzl
  have hap2 := fun b m cs => ap_snap (c := (cxL P h fk n H.length lk).care s kk) (b := b) (m := m) (cs := cs) hy he hz hby hz0 hx' hzl
  rcases Nat.eq_zero_or_pos ys.length with h0 | h0
  · have hys : ys = [] := List.eq_nil_of_length_eq_zero h0
    subst hys
    have hrs : rs.set j (.fown S v dd lk.length (GoT.sz α) xs.length ((flatL 0) xs)) = rs := by
      apply List.ext_getElem?
      intro i
      rw [List.getElem?_set]
      split
      · rename_i e1; subst e1
        obtain ⟨q1, q2⟩ := List.getElem?_eq_some_iff.1 hj
        rw [if_pos q1, hj]
      · rfl
    have k2 := k v H G hFr (by simp only [List.append_nil]; rw [hrs]; exact hO)
    refine pV (start _ ?_) hd k2
    rcases hv with rfl | ⟨b, lv, rfl, _, _⟩
    · rw [hap1]; exact if_pos rfl
    · rw [hap2]; exact if_pos rfl
  · have hroom := hroom.resolve_left (by omega)
    have hl2 : ((flatL 0) xs ++ (flatL 0) ys).length = (xs.length + ys.length) * GoT.sz α := by rw [List.length_append, flat_len, flat_len, Nat.add_mul]
    have e1 : (xs ++ ys).length = xs.length + ys.length := List.length_append
    rw [e1, flat_append] at k
    rcases hv with rfl | ⟨b, lv, rfl, hg, hlv⟩
    · refine pV (start _ ?_) hd (k (.snap G.length (xs.length + ys.length) ((flatL 0) xs ++ (flatL 0) ys)) H (G ++ [.bld lk.length (xs.length + ys.length) (GoT.sz α)]) hFr (hO.swap hj rfl rfl ⟨hl2, .inr ⟨G.length, lk.length, rfl, push_get _ _, .inr ⟨hO.len, rfl⟩⟩⟩))
      rw [hap1, if_neg (by omega), if_pos ⟨hl, hroom⟩]
      rfl
    · have hlt : b < G.length := (List.getElem?_eq_some_iff.1 hg).1
      have hlo : b < H.length → b ∈ S := fun hb => by
        rcases hlv with ⟨_, h, _⟩ | ⟨h, _⟩
        · exact h
        · omega
      have hm : ((cxL P h fk n H.length lk).care s kk).mayWrite b = true := ref_may hS hlo
      refine pV (start _ ?_) hd (k (.snap b (xs.length + ys.length) ((flatL 0) xs ++ (flatL 0) ys)) (H.set b (.bld lv (xs.length + ys.length) (GoT.sz α))) (G.set b (.bld lv (xs.length + ys.length) (GoT.sz α))) (hFr.set hlo _) (hO.setF hj rfl rfl ⟨hl2, .inr ⟨b, lv, rfl, by rw [set_get, if_pos ⟨rfl, hlt⟩], hlv⟩⟩))
      rw [hap2, if_neg (by omega), hg]
      simp only []
      rw [if_pos ⟨hl, hroom, trivial, trivial, hm⟩]
end steps

section cells
variable {P : Program} {h : Hints} {fk n base : Nat} {lk : Lk} {ops : Array Oper} {s kk : Bool} {d : Nat} {ty : TypeId} {pos : String} {aft : Array Edge} {l : List (Bool × Bool × Oper)} {Q : St → Prop} {T : Nat → V} {G G' H : Heap} {rs : List Res}
theorem own_cells {j dd sz m : Nat} {v : V} {cs : List V} (hO : Owns H G rs) (hj : rs[j]? = some (.own v dd sz m cs)) : v.cellsOf = [v] ∧ v.isCell = true := by
  rcases (hO.own hj).2 with rfl | ⟨b, rfl, _⟩ <;> exact ⟨rfl, rfl⟩
theorem fown_cells {S : List Nat} {j dd d1 sz m : Nat} {v : V} {cs : List V} (hO : Owns H G rs) (hj : rs[j]? = some (.fown S v dd d1 sz m cs)) : v.cellsOf = [v] ∧ v.isCell = true := by
  rcases (hO.fown hj).2 with rfl | ⟨b, l, rfl, _⟩ <;> exact ⟨rfl, rfl⟩
theorem all_n : ([] : List V).all V.isCell = true := rfl
theorem all_c {v : V} {vs : List V} (h1 : v.isCell = true) (h2 : vs.all V.isCell = true) : (v :: vs).all V.isCell = true := by rw [List.all_cons, h1, h2]; rfl
/-- A part of a struct, whose cells are known one by one. -/
theorem partsK_cons {place : Nat → Option (Nat × Nat)} {cells ce r : List V} {i off sz : Nat} {v : V} {rest : List (Nat × V)} (hv : v.cellsOf = ce) (hc : ce.all V.isCell = true) (h : partsK place (splice cells off ce) rest = some r) (hp : place i = some (off, sz) := by rfl) (hl : ce.length = sz := by rfl) (hf : Nat.ble (off + sz) cells.length = true := by rfl) :
    partsK place cells ((i, v) :: rest) = some r := by
  subst hv
  have hf := Nat.le_of_ble_eq_true hf
  simp only [partsK, hp]
  rw [if_neg (by rw [hc, hl]; simp; omega)]
  exact h
theorem one_cell {v : V} (h : v.isCell = true) : [v].all V.isCell = true := by rw [List.all_cons, h]; rfl
/-- A store into an own block, whose cells are told one by one. -/
theorem pSn {t : TypeId} {x y : Operand} {b off sz m : Nat} {cs xs : List V} {v : V} (cs' : List V) (hO : Owns H G rs) (j : Nat) (hz : szOf P t = some m) (hb : base = H.length) (k : ∀ G', Owns H G' (rs.set j (.blk b (.cells sz cs'))) → wpR (cxL P h fk n base lk) ops l ⟨T, G'⟩ Q) (h1 : ev T x = some (.ptr b off) := by rfl) (hj : rs[j]? = some (.blk b (.cells sz cs)) := by rfl) (h2 : ev T y = some v := by rfl) (h3 : v.cellsOf = xs := by rfl) (h4 : xs.length = m := by rfl) (h5 : Nat.ble (off + m) cs.length = true := by rfl) (h6 : xs.all V.isCell = true := by rfl) (h7 : splice cs off xs = cs' := by rfl) :
    wpR (cxL P h fk n base lk) ops ((s, kk, ⟨none, .store t x y, ty, pos, aft, none⟩) :: l) ⟨T, G⟩ Q := by
  subst h7
  exact pSt hO j hz hb k h1 hj h2 h3 h4 h5 h6
end cells

/-! ### The end of a call that got a box -/
/-- What the box holds behind the call, and what else has changed. -/
structure BoxOut (H H1 : Heap) (q : Nat) (o o' : V) (d sz n : Nat) (cells : List V) : Prop where
  box : BoxAt H1 q o' d sz n cells
  len : H.length ≤ H1.length
  same : ∀ x, x < H.length → x ∉ boxS q o → H1[x]? = H[x]?
  nums : ∀ b ∈ boxS q o', b ∈ boxS q o ∨ H.length ≤ b
def FinR (P : Program) (h : Hints) (k base d : Nat) (rs : List ResultVar) (Post : V → Heap → Prop) (x : X) (S : St) : Prop :=
  (x = .normal ∨ x = .ret) ∧ ∃ v H1, ((resultsK P S.H S.T rs).bind fun vs => leaveK h k base d (oneOf vs) S.H) = some (v, H1) ∧ Post v H1
theorem run_startR {P : Program} {h : Hints} {lk : Lk} {fn : Func} {body : Code} {k : FuncId} (hfn : P.funcs[k]? = some fn) (hb : fn.body = some body) {m : Nat} (hn : fn.ntmps = m) {args : List V} {H : Heap} {rs : Array ResultVar} (hrs : fn.results = rs) (hlen : Nat.ble args.length m = true) (hname : (fn.name == "runtime.NumGoroutine") = false) {Post : V → Heap → Prop}
    (hr : wpL (cxL P h k m H.length lk) body ⟨argsT args, H⟩ (FinR P h k H.length lk.length rs.toList Post)) (hns : nilShape body = none := by rfl) : ∃ v H1, runL P h k args H lk = some (v, H1) ∧ Post v H1 := by
  obtain ⟨x, S, h1, h2, v, H1, h3, hp⟩ := hr
  exact ⟨v, H1, run_of_wp hfn hb hn hns (Nat.le_of_ble_eq_true hlen) hname hrs ⟨x, S, h1, h2, h3⟩, hp⟩
theorem leave_get {H G : Heap} (hl : H.length ≤ G.length) (d b : Nat) : (G.take H.length ++ (G.drop H.length).map (relevK d))[b]? = if b < H.length then G[b]? else (G[b]?).map (relevK d) := by
  have hl' : (G.take H.length).length = H.length := by rw [List.length_take]; omega
  by_cases h : b < H.length
  · rw [if_pos h, List.getElem?_append_left (by omega), List.getElem?_take_of_lt h]
  · rw [if_neg h, List.getElem?_append_right (by omega), hl', List.getElem?_map, List.getElem?_drop]
    congr 2
    omega
theorem finB {P : Program} {h : Hints} {k d dd q sz n : Nat} {lr : List ResultVar} {T : Nat → V} {G H H' : Heap} {rs : List Res} {vs cells : List V} {v o o' : V} {x : X} (hO : Owns H' G rs) (i j : Nat) (hFr : Sees H H' (boxS q o)) (hq : q < H.length) (hd : d = dd + 1)
    (hi : rs[i]? = some (.fblk (boxS q o) q (.cells 1 [o'])) := by rfl) (hj : rs[j]? = some (.fown (boxS q o) o' dd d sz n cells) := by rfl) (h1 : resultsK P G T lr = some vs := by rfl) (h2 : oneOf vs = v := by rfl) (hc : cleanG d v = true := by rfl) (hg : h.grow k = true := by rfl) (hx : x = .normal ∨ x = .ret := by first | exact Or.inl rfl | exact Or.inr rfl) :
    FinR P h k H.length d lr (fun v1 H1 => v1 = v ∧ ∃ o', BoxOut H H1 q o o' dd sz n cells) x ⟨T, G⟩ := by
  have hl : H.length ≤ G.length := by rw [← hFr.1]; exact hO.len
  obtain ⟨e1, e2⟩ := hO.getF hi
  obtain ⟨e3, e4⟩ := hO.fown hj
  refine ⟨hx, v, G.take H.length ++ (G.drop H.length).map (relevK d), ?_, rfl, o', ⟨⟨?_, e3, ?_⟩, ?_, ?_, ?_⟩⟩
  · simp only [h1, Option.bind_some, h2, leaveK, hg, if_true, hc]
  · rw [leave_get hl, if_pos hq]; exact e1
  · rcases e4 with e4 | ⟨b, l, rfl, e4, e5⟩
    · exact .inl e4
    · refine .inr ⟨b, rfl, ?_⟩
      rw [leave_get hl]
      rw [hFr.1] at e5
      rcases e5 with ⟨f1, _, rfl⟩ | ⟨f1, rfl⟩
      · rw [if_pos f1]; exact e4
      · rw [if_neg (by omega), e4, hd]
        simp only [Option.map_some, relevK, Nat.add_sub_cancel]
        rw [Nat.min_eq_right (Nat.le_succ _)]
  · rw [List.length_append, List.length_take]; omega
  · intro y hy hns
    rw [leave_get hl, if_pos hy, hO.pre y (by rw [hFr.1]; exact hy)]
    exact hFr.2 y hns
  · intro b hb
    simp only [boxS, List.mem_cons] at hb
    rcases hb with rfl | hb
    · exact .inl (by simp [boxS])
    · rcases e4 with rfl | ⟨b', l, rfl, e4, e5⟩
      · simp at hb
      · simp only [List.mem_singleton] at hb
        subst hb
        rw [hFr.1] at e5
        rcases e5 with ⟨_, f2, _⟩ | ⟨f1, _⟩
        · exact .inl f2
        · exact .inr f1

/-! ### The caller -/
theorem Owns.boxed {H G : Heap} {rs : List Res} (hO : Owns H G rs) {i j q d sz n : Nat} {o : V} {cs : List V} (hi : rs[i]? = some (.blk q (.cells 1 [o]))) (hj : rs[j]? = some (.own o d sz n cs)) : BoxAt G q o d sz n cs ∧ ∀ b ∈ boxS q o, H.length ≤ b := by
  obtain ⟨e1, e2⟩ := hO.get hi
  obtain ⟨e3, e4⟩ := hO.own hj
  refine ⟨⟨e1, e3, ?_⟩, fun b hb => ?_⟩
  · rcases e4 with e4 | ⟨b, rfl, _, e5⟩
    · exact .inl e4
    · exact .inr ⟨b, rfl, e5⟩
  · simp only [boxS, List.mem_cons] at hb
    rcases hb with rfl | hb
    · exact e2
    · rcases e4 with rfl | ⟨b', rfl, e5, _⟩
      · simp at hb
      · simp only [List.mem_singleton] at hb
        subst hb; exact e5
theorem Owns.unbox {H G G' : Heap} {rs : List Res} (hO : Owns H G rs) {i j q d sz n n' : Nat} {o o' : V} {cs cs' : List V} (hi : rs[i]? = some (.blk q (.cells 1 [o]))) (hj : rs[j]? = some (.own o d sz n cs)) (hB : BoxOut G G' q o o' d sz n' cs') : Owns H G' ((rs.set i (.blk q (.cells 1 [o']))).set j (.own o' d sz n' cs')) := by
  obtain ⟨hbx, hlo⟩ := hO.boxed hi hj
  obtain ⟨⟨b1, b2, b3⟩, hlen, hsame, hnums⟩ := hB
  obtain ⟨i1, i2⟩ := List.getElem?_eq_some_iff.1 hi
  obtain ⟨j1, j2⟩ := List.getElem?_eq_some_iff.1 hj
  have hij : i ≠ j := by rintro rfl; rw [i2] at j2; cases j2
  have hp := List.pairwise_iff_getElem.1 hO.apart
  have hp2 : ∀ a b (ha : a < rs.length) (hb : b < rs.length), a ≠ b → ∀ x ∈ rs[a].nums, x ∉ rs[b].nums := fun a b ha hb hab x hx hx' => by
    rcases Nat.lt_or_ge a b with h | h
    · exact hp a b ha hb h x hx hx'
    · exact hp b a hb ha (by omega) x hx' hx
  have hS : ∀ x, x ∈ boxS q o ↔ x ∈ rs[i].nums ∨ x ∈ rs[j].nums := fun x => by
    rw [i2, j2]
    rcases hbx.2.2 with rfl | ⟨b, rfl, _⟩ <;> simp [boxS, Res.nums]
  have hS' : ∀ x, x ∈ boxS q o' ↔ x = q ∨ x ∈ (Res.own o' d sz n' cs').nums := fun x => by
    rcases b3 with rfl | ⟨b, rfl, _⟩ <;> simp [boxS, Res.nums]
  have hget : ∀ a (ha : a < ((rs.set i (.blk q (.cells 1 [o']))).set j (.own o' d sz n' cs')).length), ((rs.set i (.blk q (.cells 1 [o']))).set j (.own o' d sz n' cs'))[a] = if a = j then .own o' d sz n' cs' else if a = i then .blk q (.cells 1 [o']) else rs[a]'(by simpa using ha) := fun a ha => by
    rw [List.getElem_set]
    by_cases h : j = a
    · rw [if_pos h, if_pos h.symm]
    · rw [if_neg h, if_neg (fun e => h e.symm), List.getElem_set]
      by_cases h : i = a
      · rw [if_pos h, if_pos h.symm]
      · rw [if_neg h, if_neg (fun e => h e.symm)]
  refine ⟨fun b hb => ?_, Nat.le_trans hO.len hlen, fun r hr => ?_, ?_⟩
  · rw [hsame b (Nat.lt_of_lt_of_le hb hO.len) (fun h => by have := hlo b h; omega)]
    exact hO.pre b hb
  · obtain ⟨a, ha, e⟩ := List.mem_iff_getElem.1 hr
    rw [hget] at e
    split at e
    · subst e
      refine ⟨b2, ?_⟩
      rcases b3 with b3 | ⟨b, rfl, b3⟩
      · exact .inl b3
      · refine .inr ⟨b, rfl, ?_, b3⟩
        rcases hnums b (by simp [boxS]) with h | h
        · exact hlo b h
        · exact Nat.le_trans hO.len h
    · rename_i hja
      split at e
      · subst e
        exact ⟨hlo q (by simp [boxS]), b1⟩
      · rename_i hia
        subst e
        have ha' : a < rs.length := by simpa using ha
        have hok := hO.ok _ (List.getElem_mem ha')
        refine Res.ok_mono hok fun x hx => hsame x (Res.nums_lt hok hx) fun h => ?_
        rcases (hS x).1 h with h | h
        · exact hp2 a i ha' i1 hia x hx h
        · exact hp2 a j ha' j1 hja x hx h
  · rw [List.pairwise_iff_getElem]
    have main : ∀ a b (ha : a < ((rs.set i (.blk q (.cells 1 [o']))).set j (.own o' d sz n' cs')).length) (hb : b < ((rs.set i (.blk q (.cells 1 [o']))).set j (.own o' d sz n' cs')).length), a ≠ b → b ≠ j → ∀ x ∈ (((rs.set i (.blk q (.cells 1 [o']))).set j (.own o' d sz n' cs'))[a]).nums, x ∉ (((rs.set i (.blk q (.cells 1 [o']))).set j (.own o' d sz n' cs'))[b]).nums := by
      intro a b ha hb hab hbj x hx hx'
      have ha' : a < rs.length := by simpa using ha
      have hb' : b < rs.length := by simpa using hb
      rw [hget] at hx hx'
      rw [if_neg hbj] at hx'
      have hxb : x ∈ rs[b].nums := by
        by_cases h : b = i
        · subst h; rw [if_pos rfl] at hx'; rw [i2]; exact hx'
        · rw [if_neg h] at hx'; exact hx'
      by_cases haj : a = j
      · rw [if_pos haj] at hx
        have hne : x ≠ q := by
          rintro rfl
          rcases b3 with rfl | ⟨c, rfl, b3⟩
          · simp [Res.nums] at hx
          · simp only [Res.nums, List.mem_singleton] at hx
            subst hx
            rw [b1] at b3; cases b3
        rcases hnums x ((hS' x).2 (.inr hx)) with h | h
        · rcases (hS x).1 h with h | h
          · rw [i2] at h
            simp only [Res.nums, List.mem_singleton] at h
            exact hne h
          · exact hp2 j b j1 hb' (fun e => hbj e.symm) x h hxb
        · have := Res.nums_lt (hO.ok _ (List.getElem_mem hb')) hxb
          omega
      · rw [if_neg haj] at hx
        have hxa : x ∈ rs[a].nums := by
          by_cases h : a = i
          · subst h; rw [if_pos rfl] at hx; rw [i2]; exact hx
          · rw [if_neg h] at hx; exact hx
        exact hp2 a b ha' hb' hab x hxa hxb
    intro a b ha hb hab x hx hx'
    by_cases hbj : b = j
    · exact main b a hb ha (by omega) (by omega) x hx' hx
    · exact main a b ha hb (by omega) hbj x hx hx'

theorem gv_grow {h : Hints} {fk n : Nat} {v : V} {G : Heap} (hg : h.grow fk = true) (hc : cleanG 1 v = true) : (if h.grow fk then if cleanG 1 v then some (v, G) else none else giveV n depthK G v) = some (v, G) := by rw [if_pos hg, if_pos hc]
theorem lendArgs_lt {c : Cx} {G : Heap} : ∀ (vs vs' : List V) (M : List Nat), lendArgs c [] G vs = some (vs', M, G) → ∀ x ∈ M, x < G.length
  | [], vs', M, h => by
    simp only [lendArgs, Option.some.injEq, Prod.mk.injEq] at h
    obtain ⟨_, rfl, _⟩ := h
    intro x hx; cases hx
  | v :: vs, vs', M, h => by
    simp only [lendArgs, List.headD_nil, lendArg, List.tail_nil, Option.bind_eq_some_iff, Option.map_eq_some_iff, Prod.exists, Prod.mk.injEq] at h
    obtain ⟨v1, M1, H1, ⟨v2, M2, h1, rfl, rfl, rfl⟩, vs2, M3, H3, h2, rfl, rfl, rfl⟩ := h
    intro x hx
    rcases List.mem_append.1 hx with hx | hx
    · exact lend_lt _ _ _ _ _ _ h1 x hx
    · exact lendArgs_lt vs vs2 M3 h2 x hx
theorem locks_lt {c : Cx} {g : FuncId} {M : List Nat} {G : Heap} (hM : ∀ x ∈ M, x < G.length) (hb : c.base ≤ G.length) : ∀ x ∈ c.locksFor g M G, x < G.length := by
  intro x hx
  unfold Cx.locksFor at hx
  split at hx
  · rcases List.mem_append.1 hx with hx | hx
    · exact hM x hx
    · exact List.mem_range.1 hx
  · split at hx
    · rcases List.mem_append.1 hx with hx | hx
      · exact hM x hx
      · exact Nat.lt_of_lt_of_le (List.mem_range.1 hx) hb
    · exact hM x hx
section calls
variable {P : Program} {h : Hints} {fk n base : Nat} {lk : Lk} {ops : Array Oper} {s kk : Bool} {d : Nat} {ty : TypeId} {pos : String} {aft : Array Edge} {l : List (Bool × Bool × Oper)} {Q : St → Prop} {T : Nat → V} {G G' H : Heap} {rs : List Res}
/-- A call whose callee asks that no lock is younger than itself. -/
theorem pCallL {f : Operand} {args : Array Operand} {ats : Array TypeId} {g : FuncId} {caps vs vs' : List V} {M : List Nat} {r : V} (hO : Owns H G rs) (hlo : LkOk lk H.length) (hb : base = H.length) (hr : ∀ L, LkOk (lk ++ [L]) G.length → runL P h g vs' G (lk ++ [L]) = some (r, G')) (k : wpR (cxL P h fk n base lk) ops l ⟨upd T d r, G'⟩ Q) (h1 : ev T f = some (.fn g caps) := by rfl) (h2 : evL T args.toList = some vs := by rfl) (h3 : lendArgs ((cxL P h fk n base lk).care s kk) [] G (vs ++ caps) = some (vs', M, G) := by rfl) (hd : Nat.blt d n = true := by rfl) (hm : h.modes g = [] := by rfl) :
    wpR (cxL P h fk n base lk) ops ((s, kk, ⟨some d, .call ⟨.value f, args, ats⟩, ty, pos, aft, none⟩) :: l) ⟨T, G⟩ Q := by
  refine pV ?_ hd k
  rw [opV_call]
  simp only [h1, h2, Option.bind_some, fnOf]
  show (lendArgs ((cxL P h fk n base lk).care s kk) (h.modes g) G (vs ++ caps)).bind _ = _
  rw [hm, h3]
  exact hr _ (hlo.push hO.len (locks_lt (lendArgs_lt _ _ _ h3) (by show base ≤ _; rw [hb]; exact hO.len)))
/-- A call that gets a box. -/
theorem pCallB {f : Operand} {args : Array Operand} {ats : Array TypeId} {g : FuncId} {caps vs vs' cs cs' : List V} {r o : V} {q sz m m' : Nat} (hO : Owns H G rs) (i j : Nat) (hlo : LkOk lk H.length) (hb : base = H.length)
    (hr : ∀ L, (∀ b ∈ boxS q o, unlocked (lk ++ [L]) b = true) → BoxAt G q o lk.length sz m cs → ∃ v H1, runL P h g vs' G (lk ++ [L]) = some (v, H1) ∧ v = r ∧ ∃ o', BoxOut G H1 q o o' lk.length sz m' cs')
    (k : ∀ o' G', Owns H G' ((rs.set i (.blk q (.cells 1 [o']))).set j (.own o' lk.length sz m' cs')) → wpR (cxL P h fk n base lk) ops l ⟨upd T d r, G'⟩ Q)
    (hi : rs[i]? = some (.blk q (.cells 1 [o])) := by rfl) (hj : rs[j]? = some (.own o lk.length sz m cs) := by rfl)
    (h1 : ev T f = some (.fn g caps) := by rfl) (h2 : evL T args.toList = some vs := by rfl) (h3 : lendArgs ((cxL P h fk n base lk).care s kk) [] G (vs ++ caps) = some (vs', [], G) := by rfl) (hkk : kk = false := by rfl) (hd : Nat.blt d n = true := by rfl) (hm : h.modes g = [] := by rfl) :
    wpR (cxL P h fk n base lk) ops ((s, kk, ⟨some d, .call ⟨.value f, args, ats⟩, ty, pos, aft, none⟩) :: l) ⟨T, G⟩ Q := by
  obtain ⟨hbx, hlow⟩ := hO.boxed hi hj
  have hfree : ∀ b ∈ boxS q o, unlocked (lk ++ [((cxL P h fk n base lk).care s kk).locksFor g [] G]) b = true := fun b hb' => by
    refine hlo.free (hlow b hb') fun hx => ?_
    unfold Cx.locksFor at hx
    rw [hkk] at hx
    split at hx
    · rename_i e; cases e
    · split at hx
      · have h9 : b ∈ ([] : List Nat) ++ List.range base := hx
        have : b < base := by simpa using h9
        have := hlow b hb'
        omega
      · cases hx
  obtain ⟨v, H1, hv, hvr, o', hB⟩ := hr _ hfree hbx
  subst hvr
  refine pV ?_ hd (k o' H1 (hO.unbox hi hj hB))
  rw [opV_call]
  simp only [h1, h2, Option.bind_some, fnOf]
  show (lendArgs ((cxL P h fk n base lk).care s kk) (h.modes g) G (vs ++ caps)).bind _ = _
  rw [hm, h3]
  exact hv
/-- The same, where nothing is kept of its result. -/
theorem pCallB0 {f : Operand} {args : Array Operand} {ats : Array TypeId} {g : FuncId} {caps vs vs' cs cs' : List V} {r o : V} {q sz m m' : Nat} (hO : Owns H G rs) (i j : Nat) (hlo : LkOk lk H.length) (hb : base = H.length)
    (hr : ∀ L, (∀ b ∈ boxS q o, unlocked (lk ++ [L]) b = true) → BoxAt G q o lk.length sz m cs → ∃ v H1, runL P h g vs' G (lk ++ [L]) = some (v, H1) ∧ v = r ∧ ∃ o', BoxOut G H1 q o o' lk.length sz m' cs')
    (k : ∀ o' G', Owns H G' ((rs.set i (.blk q (.cells 1 [o']))).set j (.own o' lk.length sz m' cs')) → wpR (cxL P h fk n base lk) ops l ⟨T, G'⟩ Q)
    (hi : rs[i]? = some (.blk q (.cells 1 [o])) := by rfl) (hj : rs[j]? = some (.own o lk.length sz m cs) := by rfl)
    (h1 : ev T f = some (.fn g caps) := by rfl) (h2 : evL T args.toList = some vs := by rfl) (h3 : lendArgs ((cxL P h fk n base lk).care s kk) [] G (vs ++ caps) = some (vs', [], G) := by rfl) (hkk : kk = false := by rfl) (hm : h.modes g = [] := by rfl) :
    wpR (cxL P h fk n base lk) ops ((s, kk, ⟨none, .call ⟨.value f, args, ats⟩, ty, pos, aft, none⟩) :: l) ⟨T, G⟩ Q := by
  obtain ⟨hbx, hlow⟩ := hO.boxed hi hj
  have hfree : ∀ b ∈ boxS q o, unlocked (lk ++ [((cxL P h fk n base lk).care s kk).locksFor g [] G]) b = true := fun b hb' => by
    refine hlo.free (hlow b hb') fun hx => ?_
    unfold Cx.locksFor at hx
    rw [hkk] at hx
    split at hx
    · rename_i e; cases e
    · split at hx
      · have h9 : b ∈ ([] : List Nat) ++ List.range base := hx
        have : b < base := by simpa using h9
        have := hlow b hb'
        omega
      · cases hx
  obtain ⟨v, H1, hv, hvr, o', hB⟩ := hr _ hfree hbx
  subst hvr
  refine pV0 (v := v) ?_ (k o' H1 (hO.unbox hi hj hB))
  rw [opV_call]
  simp only [h1, h2, Option.bind_some, fnOf]
  show (lendArgs ((cxL P h fk n base lk).care s kk) (h.modes g) G (vs ++ caps)).bind _ = _
  rw [hm, h3]
  exact hv
end calls

end Go.Proofs.Ytblodpbcinkehaa.K
