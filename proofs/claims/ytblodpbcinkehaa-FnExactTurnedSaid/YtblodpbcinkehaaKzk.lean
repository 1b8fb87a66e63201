/-
  Steps of a run: parts of mutable lists that bear no lists, copies that may be written, checks for nil. No conditions.
-/
import Derived.Test.YtblodpbcinkehaaKzj
set_option linter.unusedVariables false
set_option linter.unusedSimpArgs false
namespace Go.Proofs.Ytblodpbcinkehaa.K

theorem nums_S {S : List Nat} {rs : List Res} (h : rs.flatMap Res.nums = S) : ∀ r ∈ rs, ∀ b ∈ r.nums, b ∈ S := fun r hr b hb => by
  rw [← h]; exact List.mem_flatMap.2 ⟨r, hr, hb⟩
theorem nums_S' {S : List Nat} {rs : List Res} (h : rs.flatMap Res.nums = S) : ∀ b ∈ S, ∃ r ∈ rs, b ∈ r.nums := fun b hb => by
  rw [← h] at hb; exact List.mem_flatMap.1 hb
def Res.isO : Res → Bool
  | .blk .. => true
  | .own .. => true
  | .tree [] _ _ => true
  | _ => false
theorem Owns.lo {H G : Heap} {rs0 rest : List Res} (hO : Owns H G (rs0 ++ rest)) (h : rs0.all Res.isO = true := by rfl) : ∀ r ∈ rs0, ∀ b ∈ r.nums, H.length ≤ b := fun r hr b hb => by
  have h1 := hO.ok r (List.mem_append_left _ hr)
  have h2 := List.all_eq_true.1 h r hr
  cases r with
  | blk n x => exact Res.nums_lo h1 rfl hb
  | own v d sz n cells => exact Res.nums_lo h1 rfl hb
  | fblk S n x => cases h2
  | fown S v d d1 sz n cells => cases h2
  | tree S F p =>
    cases S with
    | nil => exact Nat.not_lt.1 fun hlt => by cases (h1.1 b hb).2 hlt
    | cons a S => cases h2
theorem getI_set {α : Type} {xs : List α} {i : Int} {x : α} (h : getI xs i = some x) (y : α) : getI (xs.set i.toNat y) i = some y := by
  have := getI_lt h
  unfold getI
  rw [if_pos this.1, List.getElem?_set, if_pos rfl, if_pos (by omega)]
theorem sl_set {α : Type} {xs : List α} {v : V} {b j : Nat} {y : α} (h : v = .sl b 0 xs.length) : v = .sl b 0 (xs.set j y).length := by rw [List.length_set]; exact h
section steps
variable {P : Program} {h : Hints} {fk n base : Nat} {lk : Lk} {c : Cx} {ops : Array Oper} {s kk : Bool} {d : Nat} {ty : TypeId} {pos : String} {aft : Array Edge} {l : List (Bool × Bool × Oper)} {Q : St → Prop} {T : Nat → V} {G G' H H0 : Heap} {rs : List Res} {op : Op} {S F : List Nat}
theorem pNil {x : Operand} {v : V} (k : wpR (cxL P h fk n base lk) ops l ⟨upd T d v, G⟩ Q) (h1 : ev T x = some v := by rfl) (h2 : checkP v = some v := by rfl) (hd : Nat.blt d n = true := by rfl) :
    wpR (cxL P h fk n base lk) ops ((s, kk, ⟨some d, .nilCheck x, ty, pos, aft, none⟩) :: l) ⟨T, G⟩ Q := by
  refine pV ?_ hd k
  rw [opV_nilCheck]
  simp only [h1, h2, Option.bind_some, Option.map_some]
section
variable {α β : Type} [GoT α] [GoM α] [GoT β] [GoM β] [GoIv β]
/-- A part that bears no lists is loaded out of a mutable list: one cell, a struct. -/
theorem pLTv {get : α → β} {set : α → β → α} {off b : Nat} (L : Foc α β get set off) {xs : List α} {i : Int} {x : α} {t : TypeId} {y : Operand} {v : V} (w : V) (hO : Owns H G rs) (j : Nat) (hv : v = .sl b 0 xs.length) (hc : getI xs i = some x) (ha : aggT P t = some false)
    (k : wpR (cxL P h fk n base lk) ops l ⟨upd T d w, G⟩ Q) (hw : GoT.encL 0 (get x) = [w] := by rfl) (h1 : ev T y = some (.ptr b (i.toNat * GoT.sz α + off)) := by rfl) (hj : rs[j]? = some (Tree S F xs [v]) := by rfl) (hd : Nat.blt d n = true := by rfl) :
    wpR (cxL P h fk n base lk) ops ((s, kk, ⟨some d, .load t y, ty, pos, aft, none⟩) :: l) ⟨T, G⟩ Q := by
  obtain ⟨cells, c1, c2, c3, Fs, hg, rfl, hl, hl2, ⟨F', _, _, ht⟩, _, _, _⟩ := sub_elem L (hO.tree hj).1 hc hv
  obtain ⟨rfl, _⟩ := GoIv.inv ht
  refine pLh w hg ?_ k h1 hd
  unfold readCells
  rw [ha, hw]
  show (c1 ++ ([w] ++ c3))[i.toNat * GoT.sz α + off]? = some _
  rw [← hl, List.getElem?_append_right (Nat.le_refl _), Nat.sub_self]; rfl
theorem pLTg {get : α → β} {set : α → β → α} {off b : Nat} (L : Foc α β get set off) {xs : List α} {i : Int} {x : α} {t : TypeId} {y : Operand} {v : V} (cs : List V) (hO : Owns H G rs) (j : Nat) (hv : v = .sl b 0 xs.length) (hc : getI xs i = some x) (ha : aggT P t = some true) (hz : szOf P t = some (GoT.sz β))
    (k : wpR (cxL P h fk n base lk) ops l ⟨upd T d (.agg cs), G⟩ Q) (hw : GoT.encL 0 (get x) = cs := by rfl) (h1 : ev T y = some (.ptr b (i.toNat * GoT.sz α + off)) := by rfl) (hj : rs[j]? = some (Tree S F xs [v]) := by rfl) (hd : Nat.blt d n = true := by rfl) :
    wpR (cxL P h fk n base lk) ops ((s, kk, ⟨some d, .load t y, ty, pos, aft, none⟩) :: l) ⟨T, G⟩ Q := by
  obtain ⟨cells, c1, c2, c3, Fs, hg, rfl, hl, hl2, ⟨F', _, _, ht⟩, _, _, _⟩ := sub_elem L (hO.tree hj).1 hc hv
  obtain ⟨rfl, _⟩ := GoIv.inv ht
  refine pLh (.agg cs) hg ?_ k h1 hd
  unfold readCells
  subst hw
  simp only [ha, hz, Option.bind_some]
  rw [if_pos (by simp only [List.length_append]; omega), ← hl, List.drop_left' rfl, ← hl2, List.take_left' rfl]
end
section
variable {α β : Type} [GoT α] [GoM α] [GoT β] [GoM β]
/-- What bears no lists comes into a place of an own mutable list. -/
theorem pSTg [GoFl β] {get : α → β} {set : α → β → α} {off b : Nat} (L : Foc α β get set off) {xs : List α} {i : Int} {x : α} {t : TypeId} {y z : Operand} {v w : V} (y' : β) (hO : Owns H G rs) (j : Nat) (hv : v = .sl b 0 xs.length) (hc : getI xs i = some x) (hz : szOf P t = some (GoT.sz β))
    (hb : base = H.length) (k : ∀ G', Owns H G' (rs.set j (Tree [] F (xs.set i.toNat (set x y')) [v])) → wpR (cxL P h fk n base lk) ops l ⟨T, G'⟩ Q)
    (h1 : ev T y = some (.ptr b (i.toNat * GoT.sz α + off)) := by rfl) (h2 : ev T z = some w := by rfl) (h3 : w.cellsOf = GoT.encL 0 y' := by rfl) (hj : rs[j]? = some (Tree [] F xs [v]) := by rfl) :
    wpR (cxL P h fk n base lk) ops ((s, kk, ⟨none, .store t y z, ty, pos, aft, none⟩) :: l) ⟨T, G⟩ Q := by
  obtain ⟨ht, hbd⟩ := hO.tree hj
  obtain ⟨cells, hbF, hgb, hfit, hcell, hput⟩ := tree_put (F2 := []) L ht hc hv ⟨[], .nil, fun _ h => h, GoFl.fl G y'⟩ (fun _ h => by cases h)
  rw [List.append_nil] at hput
  have hs : ∀ c, c ∉ F → (G.set b (.cells (GoT.sz α) (splice cells (i.toNat * GoT.sz α + off) (GoT.encL 0 y'))))[c]? = G[c]? := fun c hc => by
    rw [set_get, if_neg]
    rintro ⟨rfl, _⟩; exact hc hbF
  have hbb : ¬ b < base := fun h => by rw [hb] at h; cases (hbd b hbF).2 h
  refine pV0 (store_any hz ?_ (if_neg hbb) hgb (by rw [h3]; exact hfit) (by rw [h3]; exact GoT.len y') (by rw [h3]; exact hcell) h1 h2) (k _ ?_)
  · unfold Cx.mayWrite
    simp only [Bool.or_eq_true, decide_eq_true_eq]
    exact .inl (Nat.not_lt.1 hbb)
  · rw [h3]
    exact hO.chgO hj (List.length_set ..) hs fun G2 h2 => hput.mono h2
end
variable {α : Type} [GoT α] [GoM α] [GoFl α]
theorem cloneT_run {k : FuncId} {fn : Func} {body : Code} {t e : TypeId} {by_ : Nat} (hfn : P.funcs[k]? = some fn) (hb : fn.body = some body) (hcl : isClone body = some t) (hnt : Nat.blt 7 fn.ntmps = true) (hres : fn.results = #[.tmp 2]) (hname : (fn.name == "runtime.NumGoroutine") = false) (hg : h.grow k = false) (ht : h.thaw k = true) (hkp : h.keep k = false)
    (he : elemT P t = some e) (hz : szOf P e = some (GoT.sz α)) (hby : bytesOf P e = some by_) {z : List V} (hz0 : zeroOf P e = some z) (hzl : z.length = GoT.sz α) {xs zs : List α} (happ : appB by_ [] xs = some zs) (l : Nat) (G : Heap) {lk : Lk} (hlk : 0 < lk.length) :
    ∃ v H1, runL P h k [.lit l xs.length ((flatL 0) xs)] G lk = some (v, H1) ∧ FreshL G xs v H1 := by
  have hnt := Nat.le_of_ble_eq_true hnt
  unfold appB at happ
  split at happ
  case isFalse => cases happ
  rename_i hroom
  have hsz : (0 + xs.length) * (by_ + 1) ≤ 70368744177664 := by
    rcases hroom with h0 | h0
    · rw [h0]; simp
    · exact h0
  have hex := clone_exec (n := 0) { P := P, hints := h, fn := k, ntmps := fn.ntmps, base := G.length, lk := lk, Γ := runK P h 0 } hcl (by show 7 < fn.ntmps; omega) he hz hby hz0 hzl xs hsz (T := argsT [.lit l xs.length ((flatL 0) xs)]) (G := G) (l := l) rfl
  have key : ∀ r, ((if xs.length = 0 then some (([.tl 0 []] : List V), G) else some ([.snap G.length xs.length ((flatL 0) xs)], G ++ [.bld lk.length xs.length (GoT.sz α)])).bind fun r => leaveK h k G.length lk.length (oneOf r.1) r.2) = some r → runL P h k [.lit l xs.length ((flatL 0) xs)] G lk = some r := by
    intro r hr
    refine runL_of (n := 1) ?_
    unfold runK
    simp only [hfn, hb]
    rw [if_pos ⟨by show 1 ≤ fn.ntmps; omega, hname⟩, hres]
    rw [hex]
    exact hr
  by_cases h0 : xs.length = 0
  · have hx : xs = [] := List.eq_nil_of_length_eq_zero h0
    subst hx
    refine ⟨.tl 0 [], G, key _ ?_, [], [], by simp, .nil, fun b hb => (by cases hb), .inl ⟨rfl, rfl, rfl⟩⟩
    rw [if_pos (show ([] : List α).length = 0 from rfl)]
    simp only [Option.bind_some, oneOf, leaveK, hg, ht, Bool.false_eq_true, if_false]
    show (resV true G.length lk.length (7 + 1) (G, []) (.tl 0 [])).map _ = _
    rw [resV, if_pos rfl]
    simp
  · refine ⟨.sl G.length 0 xs.length, G ++ [.cells (GoT.sz α) ((flatL 0) xs)], key _ ?_, [.cells (GoT.sz α) ((flatL 0) xs)], [G.length], rfl, by simp, fun b hb => by simp only [List.mem_singleton] at hb; omega, .inr ⟨G.length, (flatL 0) xs, [], rfl, push_get _ _, flat_tr xs, rfl⟩⟩
    rw [if_neg h0]
    simp only [Option.bind_some, oneOf, leaveK, hg, ht, Bool.false_eq_true, if_false]
    show (resV true G.length lk.length (7 + 1) (G ++ [.bld lk.length xs.length (GoT.sz α)], []) (.snap G.length xs.length ((flatL 0) xs))).map _ = _
    have hcl := fun X => resL_clean (th := true) (lo := G.length) (d := lk.length) (k := 6) (X := X) ((flatL 0) xs) (cleanL_up hlk Nat.one_pos _ (flat_clean xs)) (flat_cell xs)
    rw [resV]
    simp only [push_get]
    rw [if_neg (by omega), hcl]
    simp only [Option.bind_some, if_true]
    rw [if_pos (flat_len xs)]
    simp only [Option.map_some, List.length_nil, Nat.add_zero, List.nil_append]
    rw [List.set_append_right _ _ (Nat.le_refl _), List.take_left' rfl]
/-- A copy that may be written. -/
theorem pCloneT {f : Operand} {args : Array Operand} {ats : Array TypeId} {g : FuncId} {fn : Func} {t e : TypeId} {by_ lv : Nat} {w : V} {M : List Nat} {z : List V} {xs zs : List α} (hO : Owns H G rs) (happ : appB by_ [] xs = some zs)
    (hfn : P.funcs[g]? = some fn) (hcl : fn.body.bind isClone = some t) (he : elemT P t = some e) (hz : szOf P e = some (GoT.sz α)) (hby : bytesOf P e = some by_) (hz0 : zeroOf P e = some z)
    (k : ∀ v F G', Owns H G' (Tree [] F zs [v] :: rs) → wpR (cxL P h fk n base lk) ops l ⟨upd T d v, G'⟩ Q)
    (h1 : ev T f = some (.fn g []) := by rfl) (h2 : evL T args.toList = some [w] := by rfl)
    (h3 : lendArgs ((cxL P h fk n base lk).care s kk) (h.modes g) G [w] = some ([.lit lv xs.length ((flatL 0) xs)], M, G) := by rfl) (hzl : z.length = GoT.sz α := by rfl) (hnt : Nat.blt 7 fn.ntmps = true := by rfl) (hres : fn.results = #[.tmp 2] := by rfl) (hname : (fn.name == "runtime.NumGoroutine") = false := by rfl) (hg : h.grow g = false := by rfl) (ht : h.thaw g = true := by rfl) (hkp : h.keep g = false := by rfl) (hd : Nat.blt d n = true := by rfl) :
    wpR (cxL P h fk n base lk) ops ((s, kk, ⟨some d, .call ⟨.value f, args, ats⟩, ty, pos, aft, none⟩) :: l) ⟨T, G⟩ Q := by
  obtain ⟨body, hb, hcl⟩ := Option.bind_eq_some_iff.1 hcl
  have hzs : zs = xs := by
    unfold appB at happ
    split at happ
    · simpa using happ.symm
    · cases happ
  subst hzs
  exact pCN (vs := [w]) (caps := []) hO (fun L => cloneT_run hfn hb hcl hnt hres hname hg ht hkp he hz hby hz0 hzl happ lv G (lk := lk ++ [L]) (by simp)) k h1 h2 h3 hd
end steps

end Go.Proofs.Ytblodpbcinkehaa.K
