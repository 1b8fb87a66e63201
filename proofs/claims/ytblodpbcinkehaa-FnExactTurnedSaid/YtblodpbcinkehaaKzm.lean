/-
  Copies of lists of bearers, whose elements are made own one after the other; made lists as parts of structs. No conditions.
-/
import Derived.Test.YtblodpbcinkehaaKzl
set_option linter.unusedVariables false
set_option linter.unusedSimpArgs false
namespace Go.Proofs.Ytblodpbcinkehaa.K

theorem appB_nil {α : Type} {n : Nat} {ys z : List α} (h : appB n [] ys = some z) : z = ys := by
  unfold appB at h
  split at h
  · rw [List.nil_append] at h; exact (Option.some.inj h).symm
  · cases h

section
variable {α β : Type} [GoT α] [GoM α] [GoT β] [GoM β] {G G' H : Heap} {F F2 : List Nat} {xs : List α} {x : α} {y : β} {v : V} {rs : List Res} {cs c1 c2 : List V}
theorem TrIn.pairL [GoFl α] (x : α) (h : TrIn G y c2 F) : TrIn G (x, y) (GoT.encL 0 x ++ c2) F := by
  obtain ⟨F', h1, h2, h3⟩ := h
  exact ⟨F', h1, h2, _, _, [], F', rfl, rfl, GoFl.fl G x, h3⟩
theorem TrIn.pairR [GoFl β] (y : β) (h : TrIn G x c1 F) : TrIn G (x, y) (c1 ++ GoT.encL 0 y) F := by
  obtain ⟨F', h1, h2, h3⟩ := h
  exact ⟨F', h1, h2, _, _, F', [], rfl, by simp, h3, GoFl.fl G y⟩
theorem TrE.pairL [GoFl α] (x : α) (h : GoM.tr G y c2 F) : GoM.tr G (x, y) (GoT.encL 0 x ++ c2) F := ⟨_, _, [], F, rfl, rfl, GoFl.fl G x, h⟩
theorem TrE.pairR [GoFl β] (y : β) (h : GoM.tr G x c1 F) : GoM.tr G (x, y) (c1 ++ GoT.encL 0 y) F := ⟨_, _, F, [], rfl, by simp, h, GoFl.fl G y⟩
theorem Owns.treeM [GoFl β] {ys : List β} {b sz m : Nat} (hO : Owns H G (.blk b (.cells sz ((flatL 0) ys)) :: rs)) (hl : ys.length = m) (hsz : sz = GoT.sz β := by rfl) : Owns H G (Tree [] [b] ys [.sl b 0 m] :: rs) := by
  subst hsz hl
  obtain ⟨hgb, hbb⟩ := hO.get (k := 0) rfl
  have hlt := (List.getElem?_eq_some_iff.1 hgb).1
  refine ⟨hO.pre, hO.len, fun r hr => ?_, ?_⟩
  · rcases List.mem_cons.1 hr with rfl | hr
    · refine tree_ok ⟨[b], by simp, fun _ h => h, .inr ⟨b, _, [], rfl, hgb, flat_tr ys, rfl⟩⟩ fun c hc => ?_
      simp only [List.mem_singleton] at hc
      subst hc
      exact ⟨hlt, fun h => by omega⟩
    · exact hO.ok r (List.mem_cons_of_mem _ hr)
  · have := List.pairwise_cons.1 hO.apart
    exact List.pairwise_cons.2 ⟨fun r hr c hc => this.1 r hr c (by simpa [Res.nums] using hc), this.2⟩

variable {m : Nat}
/-! ### A list whose first k elements are own -/
def MixIn (m : Nat) (G : Heap) (xs : List α) (v : V) (F : List Nat) (k : Nat) : Prop := ∃ F', F'.Nodup ∧ (∀ b ∈ F', b ∈ F) ∧ ((xs = [] ∧ v = .tl 0 [] ∧ F' = []) ∨
  ∃ b c1 F2, v = .sl b 0 xs.length ∧ G[b]? = some (.cells (GoT.sz α) (c1 ++ flatL m (xs.drop k))) ∧ trL GoM.tr G (xs.take k) c1 F2 ∧ F' = b :: F2)
abbrev Mix (m : Nat) (F : List Nat) (xs : List α) (v : V) (k : Nat) : Res := .tree [] F fun G => MixIn m G xs v F k
theorem MixIn.mono {k : Nat} (h : MixIn m G xs v F k) (hg : ∀ b ∈ F, G'[b]? = G[b]?) : MixIn m G' xs v F k := by
  obtain ⟨F', h1, h2, h3⟩ := h
  refine ⟨F', h1, h2, ?_⟩
  rcases h3 with h3 | ⟨b, c1, F2, e1, e2, e3, rfl⟩
  · exact .inl h3
  · exact .inr ⟨b, c1, F2, e1, by rw [hg b (h2 b (by simp))]; exact e2, trL_frame e3 fun c hc => hg c (h2 c (by simp [hc])), rfl⟩
theorem mix_len {k : Nat} (h : MixIn m G xs v F k) : lenK v = some xs.length := by
  obtain ⟨F', _, _, ⟨rfl, rfl, _⟩ | ⟨b, c1, F2, rfl, _⟩⟩ := h <;> rfl
theorem mix_cells {j k : Nat} (hO : Owns H G rs) (hj : rs[j]? = some (Mix m F xs v k)) : v.cellsOf = [v] ∧ v.isCell = true := by
  obtain ⟨F', _, _, ⟨rfl, rfl, _⟩ | ⟨b, c1, F2, rfl, _⟩⟩ := (hO.tree hj).1 <;> exact ⟨rfl, rfl⟩
theorem mix_open {k : Nat} {i : Int} (h : MixIn m G xs v F k) (hx : getI xs i = some x) : ∃ b c1 F2, v = .sl b 0 xs.length ∧ G[b]? = some (.cells (GoT.sz α) (c1 ++ flatL m (xs.drop k))) ∧ trL GoM.tr G (xs.take k) c1 F2 ∧ (b :: F2).Nodup ∧ ∀ c ∈ b :: F2, c ∈ F := by
  obtain ⟨F', h1, h2, ⟨rfl, _, _⟩ | ⟨b, c1, F2, e1, e2, e3, rfl⟩⟩ := h
  · have := getI_lt hx; simp at this; omega
  · exact ⟨b, c1, F2, e1, e2, e3, h1, h2⟩
theorem mix_done {k : Nat} (h : MixIn m G xs v F k) (hk : xs.length ≤ k) : TrIn G xs [v] F := by
  obtain ⟨F', h1, h2, ⟨rfl, rfl, rfl⟩ | ⟨b, c1, F2, rfl, e2, e3, rfl⟩⟩ := h
  · exact ⟨[], .nil, (fun _ h => by cases h), .inl ⟨rfl, rfl, rfl⟩⟩
  · rw [List.take_of_length_le hk] at e3
    rw [List.drop_of_length_le hk, flat_nil, List.append_nil] at e2
    exact ⟨_, h1, h2, .inr ⟨b, c1, F2, rfl, e2, e3, rfl⟩⟩
theorem Owns.mixDone {j k : Nat} (hO : Owns H G rs) (hj : rs[j]? = some (Mix m F xs v k)) (hk : xs.length ≤ k) : Owns H G (rs.set j (Tree [] F xs [v])) := by
  have h := hO.tree hj
  refine ⟨hO.pre, hO.len, fun r hr => ?_, pairwise_set hO.apart hj fun y hy => hy⟩
  obtain ⟨i, hi, e⟩ := List.mem_iff_getElem.1 hr
  rw [List.length_set] at hi
  rw [List.getElem_set] at e
  split at e
  · subst e
    exact tree_ok (mix_done h.1 hk) h.2
  · subst e
    exact hO.ok _ (List.getElem_mem hi)
theorem Owns.mixTo {j k k' : Nat} (hO : Owns H G rs) (hj : rs[j]? = some (Mix m F xs v k)) (e : k' = k) : Owns H G (rs.set j (Mix m F xs v k')) := by
  subst e
  obtain ⟨h1, h2⟩ := List.getElem?_eq_some_iff.1 hj
  have : rs.set j (Mix m F xs v k') = rs := by rw [← h2]; exact List.set_getElem_self h1
  rw [this]; exact hO
end
theorem mix_le {i : Int} {n : Nat} (h : decide (i < (n : Int)) = false) : n ≤ i.toNat := by
  have := of_decide_eq_false h
  omega
theorem w64_next {α : Type} {by_ : Nat} {xs zs : List α} {i : Int} {x : α} (hz : appB by_ [] xs = some zs) (hc : getI xs i = some x) : (w64 (i + 1)).toNat = i.toNat + 1 := by
  have h1 := getI_lt hc
  unfold appB at hz
  split at hz
  case isFalse => cases hz
  rename_i h
  have h2 : xs.length ≤ 70368744177664 := by
    rcases h with h | h
    · omega
    · have := Nat.le_mul_of_pos_right (0 + xs.length) (Nat.succ_pos by_)
      have h9 : (0 + xs.length) * (by_ + 1) ≤ 70368744177664 := h
      have h8 : (0 + xs.length) ≤ (0 + xs.length) * (by_ + 1) := this
      omega
  rw [w64_id ⟨by omega, by omega⟩]
  omega

section steps
variable {m : Nat}
variable {P : Program} {h : Hints} {fk n base : Nat} {lk : Lk} {c : Cx} {ops : Array Oper} {s kk : Bool} {d : Nat} {ty : TypeId} {pos : String} {aft : Array Edge} {l : List (Bool × Bool × Oper)} {Q : St → Prop} {T : Nat → V} {G G' H H0 : Heap} {rs : List Res} {op : Op} {S F F2 : List Nat}
variable {α β : Type} [GoT α] [GoM α] [GoT β] [GoM β]
theorem pLenM {xs : List α} {x : Operand} {t : TypeId} {v : V} {i : Nat} (hO : Owns H G rs) (j : Nat) (ht : strT P t = some false) (k : wpR (cxL P h fk n base lk) ops l ⟨upd T d (.int .i64 xs.length), G⟩ Q) (h1 : ev T x = some v := by rfl) (hj : rs[j]? = some (Mix m F xs v i) := by rfl) (hd : Nat.blt d n = true := by rfl) :
    wpR (cxL P h fk n base lk) ops ((s, kk, ⟨some d, .call ⟨.builtin .len, #[x], #[t]⟩, ty, pos, aft, none⟩) :: l) ⟨T, G⟩ Q := by
  refine pLen (b := false) (a := v) ht k h1 ?_ hd
  have := mix_len (hO.tree hj).1
  cases v <;> first | exact this | simp [lenK] at this
theorem pXH {xs : List α} {q : Nat} {i : Int} {x : α} {t e : TypeId} {y z : Operand} {kd : IntKind} {v : V} (hO : Owns H G rs) (j : Nat) (hc : getI xs i = some x) (he : elemT P t = some e) (hz : szOf P e = some (GoT.sz α)) (k : ∀ b, v = .sl b 0 xs.length → wpR (cxL P h fk n base lk) ops l ⟨upd T d (.ptr b (i.toNat * GoT.sz α)), G⟩ Q)
    (h1 : ev T y = some v := by rfl) (h2 : ev T z = some (.int kd i) := by rfl) (hj : rs[j]? = some (Mix m F xs v q) := by rfl) (hd : Nat.blt d n = true := by rfl) :
    wpR (cxL P h fk n base lk) ops ((s, kk, ⟨some d, .indexAddr t y z, ty, pos, aft, none⟩) :: l) ⟨T, G⟩ Q := by
  obtain ⟨b, c1, F2, rfl, _⟩ := mix_open (hO.tree hj).1 hc
  refine pV ?_ hd (k b rfl)
  rw [opV_indexAddr]
  show (elemT P t).bind _ = _
  rw [he, Option.bind_some]
  show (szOf P e).bind _ = _
  simp only [hz, h1, h2, Option.bind_some, asInt, idxP, lenK]
  rw [if_pos (getI_lt hc)]
  simp
theorem mix_at {xs : List α} {i : Int} {x : α} {c1 : List V} {F2 : List Nat} (hc : getI xs i = some x) (ht : trL GoM.tr G (xs.take i.toNat) c1 F2) : c1.length = i.toNat * GoT.sz α ∧ flatL m (xs.drop i.toNat) = GoT.encL m x ++ flatL m (xs.drop (i.toNat + 1)) := by
  have hi := getI_lt hc
  have hg := getI_get hc
  obtain ⟨h1, h2⟩ := List.getElem?_eq_some_iff.1 hg
  refine ⟨?_, ?_⟩
  · rw [trL_len ht, List.length_take, Nat.min_eq_left (by omega)]
  · rw [List.drop_eq_getElem_cons h1, h2, flat_cons]
/-- A cell of the first element that is not own yet. -/
theorem pLH {xs : List α} {i : Int} {x : α} {t : TypeId} {y : Operand} {v w : V} {off b : Nat} (hO : Owns H G rs) (j : Nat) (hv : v = .sl b 0 xs.length) (hc : getI xs i = some x) (ha : aggT P t = some false) (k : wpR (cxL P h fk n base lk) ops l ⟨upd T d w, G⟩ Q)
    (hw : (GoT.encL m x)[off]? = some w := by rfl) (h1 : ev T y = some (.ptr b (i.toNat * GoT.sz α + off)) := by rfl) (hj : rs[j]? = some (Mix m F xs v i.toNat) := by rfl) (hd : Nat.blt d n = true := by rfl) :
    wpR (cxL P h fk n base lk) ops ((s, kk, ⟨some d, .load t y, ty, pos, aft, none⟩) :: l) ⟨T, G⟩ Q := by
  obtain ⟨b', c1, F2, rfl, hg, ht, _⟩ := mix_open (hO.tree hj).1 hc
  cases hv
  obtain ⟨e1, e2⟩ := mix_at (m := m) hc ht
  refine pLh w hg ?_ k h1 hd
  have hlt := (List.getElem?_eq_some_iff.1 hw).1
  unfold readCells
  rw [ha]
  show (c1 ++ flatL m (xs.drop i.toNat))[i.toNat * GoT.sz α + off]? = some w
  rw [e2, ← e1, List.getElem?_append_right (Nat.le_add_right _ _), Nat.add_sub_cancel_left, List.getElem?_append_left hlt, hw]
/-- Its list comes to be an own one. -/
theorem pSH {xs : List α} {i : Int} {x : α} {ys : List β} {t : TypeId} {y z : Operand} {u v : V} {off b : Nat} {cx : List V} (hO : Owns H G (Tree [] F2 ys [u] :: rs)) (j : Nat) (hv : v = .sl b 0 xs.length) (hc : getI xs i = some x) (hz : szOf P t = some 1) (hb : base = H.length)
    (hx : ∀ G F, GoM.tr G ys [u] F → GoM.tr G x cx F) (hcx : splice (GoT.encL m x) off [u] = cx) (k : ∀ G', Owns H G' (rs.set j (Mix m (F ++ F2) xs v (i.toNat + 1))) → wpR (cxL P h fk n base lk) ops l ⟨T, G'⟩ Q)
    (h1 : ev T y = some (.ptr b (i.toNat * GoT.sz α + off)) := by rfl) (h2 : ev T z = some u := by rfl) (ho : Nat.blt off (GoT.sz α) = true := by rfl) (hj : rs[j]? = some (Mix m F xs v i.toNat) := by rfl) :
    wpR (cxL P h fk n base lk) ops ((s, kk, ⟨none, .store t y z, ty, pos, aft, none⟩) :: l) ⟨T, G⟩ Q := by
  have hj' : (Tree [] F2 ys [u] :: rs)[j + 1]? = some (Mix m F xs v i.toNat) := hj
  obtain ⟨hm, hbd⟩ := hO.tree hj'
  obtain ⟨ht2, hbd2⟩ := hO.tree (j := 0) (F := F2) (S := []) rfl
  obtain ⟨hu1, hu2⟩ := tl_cells hO (j := 0) rfl
  have hap : ∀ c ∈ F2, c ∉ F := fun c hc hc' => (List.pairwise_cons.1 hO.apart).1 _ (List.mem_of_getElem? hj) c hc hc'
  obtain ⟨b', c1, E, rfl, hg, ht, hn, hE⟩ := mix_open hm hc
  cases hv
  obtain ⟨e1, e2⟩ := mix_at (m := m) hc ht
  have ho := Nat.le_of_ble_eq_true ho
  have hlx : (GoT.encL m x).length = GoT.sz α := GoT.len x
  have hlt := (List.getElem?_eq_some_iff.1 hg).1
  have hbF := hE b (by simp)
  have hs : ∀ c, c ∉ F → (G.set b (.cells (GoT.sz α) (splice (c1 ++ flatL m (xs.drop i.toNat)) (i.toNat * GoT.sz α + off) [u])))[c]? = G[c]? := fun c hc => by
    rw [set_get, if_neg]
    rintro ⟨rfl, _⟩; exact hc hbF
  have hsp : splice (c1 ++ flatL m (xs.drop i.toNat)) (i.toNat * GoT.sz α + off) [u] = c1 ++ cx ++ flatL m (xs.drop (i.toNat + 1)) := by
    rw [e2, ← e1, ← hcx]
    unfold splice
    rw [List.take_append, List.take_of_length_le (Nat.le_add_right _ _), Nat.add_sub_cancel_left, List.take_append_of_le_length (by omega), List.length_singleton, Nat.add_assoc, List.drop_append, List.drop_of_length_le (by omega), Nat.add_sub_cancel_left, List.drop_append_of_le_length (by omega)]
    simp
  obtain ⟨E2, n2, s2, t2⟩ := ht2
  have hbb : ¬ b < base := fun h => by rw [hb] at h; cases (hbd b hbF).2 h
  refine pV0 (store_any (cells := c1 ++ flatL m (xs.drop i.toNat)) hz ?_ (if_neg hbb) hg ?_ (by rw [hu1]; rfl) (by rw [hu1]; simp [hu2]) h1 h2) (k _ ?_)
  · unfold Cx.mayWrite
    simp only [Bool.or_eq_true, decide_eq_true_eq]
    exact .inl (Nat.not_lt.1 hbb)
  · rw [hu1, e2]; simp only [List.length_append, List.length_singleton]; omega
  · rw [hu1]
    have h9 := hO.join (G' := G.set b (.cells (GoT.sz α) (splice (c1 ++ flatL m (xs.drop i.toNat)) (i.toNat * GoT.sz α + off) [u]))) hj (List.length_set ..) hs (p' := fun G => MixIn m G xs (.sl b 0 xs.length) (F ++ F2) (i.toNat + 1)) fun G2 hG2 => ?_
    · rwa [take_own hO hj' hs] at h9
    · refine MixIn.mono (G := G.set b (.cells (GoT.sz α) (splice (c1 ++ flatL m (xs.drop i.toNat)) (i.toNat * GoT.sz α + off) [u]))) ⟨b :: (E ++ E2), ?_, fun c hc => ?_, .inr ⟨b, c1 ++ cx, E ++ E2, rfl, by rw [set_get, if_pos ⟨rfl, hlt⟩, hsp], ?_, rfl⟩⟩ hG2
      · rw [List.nodup_cons] at hn
        rw [List.nodup_cons, List.nodup_append]
        refine ⟨fun h => ?_, hn.2, n2, fun p hp q hq e => ?_⟩
        · rcases List.mem_append.1 h with h | h
          · exact hn.1 h
          · exact hap b (s2 b h) hbF
        · subst e; exact hap p (s2 p hq) (hE p (by simp [hp]))
      · rcases List.mem_cons.1 hc with rfl | hc
        · exact List.mem_append_left _ hbF
        · rcases List.mem_append.1 hc with hc | hc
          · exact List.mem_append_left _ (hE c (by simp [hc]))
          · exact List.mem_append_right _ (s2 c hc)
      · have hg' := getI_get hc
        obtain ⟨g1, g2⟩ := List.getElem?_eq_some_iff.1 hg'
        rw [List.take_succ_eq_append_getElem g1, g2]
        refine trL_snoc (trL_frame ht fun c hc => ?_) (hx _ _ (GoM.frame t2 fun c hc => ?_))
        · rw [set_get, if_neg]
          rintro ⟨rfl, _⟩
          exact (List.nodup_cons.1 hn).1 hc
        · rw [set_get, if_neg]
          rintro ⟨rfl, _⟩
          exact hap _ (s2 _ hc) hbF
/-- A copy of a list of bearers, which holds the elements as they were. -/
theorem pCloneH {f : Operand} {args : Array Operand} {ats : Array TypeId} {g : FuncId} {fn : Func} {t e : TypeId} {by_ lv : Nat} {z : List V} {xs zs : List α} (hO : Owns H G rs) (happ : appB by_ [] xs = some zs)
    (hfn : P.funcs[g]? = some fn) (hcl : fn.body.bind isClone = some t) (he : elemT P t = some e) (hz : szOf P e = some (GoT.sz α)) (hby : bytesOf P e = some by_) (hz0 : zeroOf P e = some z)
    (k : ∀ v F G', Owns H G' (Mix m F xs v 0 :: rs) → wpR (cxL P h fk n base lk) ops l ⟨upd T d v, G'⟩ Q)
    (h1 : ev T f = some (.fn g []) := by rfl) (h2 : evL T args.toList = some [.lit lv xs.length (flatL m xs)] := by rfl)
    (h3 : lendArgs ((cxL P h fk n base lk).care s kk) (h.modes g) G [.lit lv xs.length (flatL m xs)] = some ([.lit lv xs.length (flatL m xs)], [], G) := by rfl) (hzl : z.length = GoT.sz α := by rfl) (hnt : Nat.blt 7 fn.ntmps = true := by rfl) (hres : fn.results = #[.tmp 2] := by rfl) (hname : (fn.name == "runtime.NumGoroutine") = false := by rfl) (hlm : m ≤ lk.length := by first | exact Nat.zero_le _ | assumption) (hg : h.grow g = false := by rfl) (ht : h.thaw g = true := by rfl) (hd : Nat.blt d n = true := by rfl) :
    wpR (cxL P h fk n base lk) ops ((s, kk, ⟨some d, .call ⟨.value f, args, ats⟩, ty, pos, aft, none⟩) :: l) ⟨T, G⟩ Q := by
  obtain ⟨body, hb, hcl⟩ := Option.bind_eq_some_iff.1 hcl
  have hnt := Nat.le_of_ble_eq_true hnt
  unfold appB at happ
  split at happ
  case isFalse => cases happ
  rename_i hroom
  have hsz : (0 + xs.length) * (by_ + 1) ≤ 70368744177664 := by
    rcases hroom with h0 | h0
    · rw [h0]; simp
    · exact h0
  have call : ∀ v1 H1, runL P h g [.lit lv xs.length (flatL m xs)] G (lk ++ [((cxL P h fk n base lk).care s kk).locksFor g [] G]) = some (v1, H1) → opV ((cxL P h fk n base lk).care s kk) (.call ⟨.value f, args, ats⟩) ⟨T, G⟩ = some (v1, H1) := fun v1 H1 hr => by
    rw [opV_call]
    simp only [h1, h2, Option.bind_some, fnOf]
    show (lendArgs ((cxL P h fk n base lk).care s kk) (h.modes g) G ([.lit lv xs.length (flatL m xs)] ++ [])).bind _ = _
    rw [List.append_nil, h3]
    exact hr
  generalize hlk : lk ++ [((cxL P h fk n base lk).care s kk).locksFor g [] G] = lk2 at call
  have hlk2 : 0 < lk2.length := by rw [← hlk]; simp
  have hex := clone_exec (n := 0) { P := P, hints := h, fn := g, ntmps := fn.ntmps, base := G.length, lk := lk2, Γ := runK P h 0 } hcl (by show 7 < fn.ntmps; omega) he hz hby hz0 hzl xs hsz (T := argsT [.lit lv xs.length (flatL m xs)]) (G := G) (l := lv) rfl
  have key : ∀ r, ((if xs.length = 0 then some (([.tl 0 []] : List V), G) else some ([.snap G.length xs.length (flatL m xs)], G ++ [.bld lk2.length xs.length (GoT.sz α)])).bind fun r => leaveK h g G.length lk2.length (oneOf r.1) r.2) = some r → runL P h g [.lit lv xs.length (flatL m xs)] G lk2 = some r := by
    intro r hr
    refine runL_of (n := 1) ?_
    unfold runK
    simp only [hfn, hb]
    rw [if_pos ⟨by show 1 ≤ fn.ntmps; omega, hname⟩, hres]
    rw [hex]
    exact hr
  by_cases h0 : xs.length = 0
  · have hx : xs = [] := List.eq_nil_of_length_eq_zero h0
    subst hx
    refine pV (call (.tl 0 []) G (key _ ?_)) hd (k _ [] _ ⟨hO.pre, hO.len, fun r hr => ?_, List.pairwise_cons.2 ⟨(fun r hr x hx => by cases hx), hO.apart⟩⟩)
    · rw [if_pos (show ([] : List α).length = 0 from rfl)]
      simp only [Option.bind_some, oneOf, leaveK, hg, ht, Bool.false_eq_true, if_false]
      show (resV true G.length lk2.length (7 + 1) (G, []) (.tl 0 [])).map _ = _
      rw [resV, if_pos rfl]
      simp
    · rcases List.mem_cons.1 hr with rfl | hr
      · exact ⟨fun b hb => (by cases hb), fun _ _ => ⟨[], .nil, fun _ h => h, .inl ⟨rfl, rfl, rfl⟩⟩⟩
      · exact hO.ok r hr
  · refine pV (call (.sl G.length 0 xs.length) (G ++ [.cells (GoT.sz α) (flatL m xs)]) (key _ ?_)) hd (k _ [G.length] _ ⟨fun b hb => by rw [List.getElem?_append_left (Nat.lt_of_lt_of_le hb hO.len)]; exact hO.pre b hb, by rw [List.length_append]; have := hO.len; omega, fun r hr => ?_, List.pairwise_cons.2 ⟨fun r hr x hx hx' => ?_, hO.apart⟩⟩)
    · rw [if_neg h0]
      simp only [Option.bind_some, oneOf, leaveK, hg, ht, Bool.false_eq_true, if_false]
      show (resV true G.length lk2.length (7 + 1) (G ++ [.bld lk2.length xs.length (GoT.sz α)], []) (.snap G.length xs.length (flatL m xs))).map _ = _
      have hcl := fun X => resL_clean (th := true) (lo := G.length) (d := lk2.length) (k := 6) (X := X) (flatL m xs) (flat_cleanM (by rw [← hlk, List.length_append]; simp only [Bool.or_eq_true, decide_eq_true_eq]; exact .inr (Nat.lt_succ_of_le hlm)) xs) (flat_cell xs)
      rw [resV]
      simp only [push_get]
      rw [if_neg (by omega), hcl]
      simp only [Option.bind_some, if_true]
      rw [if_pos (flat_len xs)]
      simp only [Option.map_some, List.length_nil, Nat.add_zero, List.nil_append]
      rw [List.set_append_right _ _ (Nat.le_refl _), List.take_left' rfl]
    · rcases List.mem_cons.1 hr with rfl | hr
      · refine ⟨fun b hb => ?_, fun G' hG' => MixIn.mono (G := G ++ [.cells (GoT.sz α) (flatL m xs)]) ⟨[G.length], by simp, fun _ h => h, .inr ⟨G.length, [], [], rfl, by rw [push_get, List.drop_zero, List.nil_append], ⟨rfl, rfl⟩, rfl⟩⟩ hG'⟩
        simp only [List.mem_singleton] at hb
        subst hb
        have := hO.len
        exact ⟨by simp, fun h => by omega⟩
      · have h1 := hO.ok r hr
        exact Res.ok_mono h1 fun x hx => by rw [List.getElem?_append_left (Res.nums_lt h1 hx)]
    · simp only [Res.nums, List.mem_singleton] at hx
      subst hx
      have := Res.nums_lt (hO.ok r hr) hx'
      omega
end steps

end Go.Proofs.Ytblodpbcinkehaa.K
