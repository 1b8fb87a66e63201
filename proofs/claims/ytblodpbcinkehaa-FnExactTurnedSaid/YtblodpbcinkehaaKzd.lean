/-
  Calls that write into mutable values, and calls that give back fresh ones. No conditions.
-/
import Derived.Test.YtblodpbcinkehaaKzc
set_option linter.unusedVariables false
set_option linter.unusedSimpArgs false
namespace Go.Proofs.Ytblodpbcinkehaa.K

section
variable {P : Program} {h : Hints} {fk n base : Nat} {lk : Lk} {c : Cx} {ops : Array Oper} {s kk : Bool} {d : Nat} {ty : TypeId} {pos : String} {aft : Array Edge} {l : List (Bool × Bool × Oper)} {Q : St → Prop} {T : Nat → V} {G G' H H0 : Heap} {rs : List Res} {op : Op} {S F : List Nat}
variable {α β : Type} [GoT α] [GoM α] [GoT β] [GoM β]
theorem unlocked_nil {lk : Lk} {b : Nat} (h : unlocked lk b = true) : unlocked (lk ++ [[]]) b = true := by
  unfold unlocked at h ⊢
  rw [List.all_append, h]; rfl
theorem LkOk.freeO {lk : Lk} {n b : Nat} (h : LkOk lk n) (hb : n ≤ b) : unlocked lk b = true := by
  unfold unlocked
  rw [List.all_eq_true]
  intro l hl
  simp only [Bool.not_eq_true', ← Bool.not_eq_true, List.contains_iff_mem]
  intro hx
  exact absurd (h l hl b hx) (Nat.not_lt.2 hb)
theorem call_ref {f : Operand} {args : Array Operand} {ats : Array TypeId} {g : FuncId} {caps vs vs' : List V} {r : V} (hr : runL P h g vs' G (lk ++ [[]]) = some (r, G')) (h1 : ev T f = some (.fn g caps)) (h2 : evL T args.toList = some vs)
    (h3 : lendArgs ((cxL P h fk n base lk).care s false) (h.modes g) G (vs ++ caps) = some (vs', [], G)) (hg : h.grow g = false) : opV ((cxL P h fk n base lk).care s false) (.call ⟨.value f, args, ats⟩) ⟨T, G⟩ = some (r, G') := by
  rw [opV_call]
  simp only [h1, h2, Option.bind_some, fnOf]
  show (lendArgs ((cxL P h fk n base lk).care s false) (h.modes g) G (vs ++ caps)).bind _ = _
  rw [h3]
  have e : ((cxL P h fk n base lk).care s false).locksFor g [] G = [] := by
    unfold Cx.locksFor
    have e1 : ((cxL P h fk n base lk).care s false).calm = false := rfl
    have e2 : ((cxL P h fk n base lk).care s false).hints.grow g = false := hg
    rw [e1, e2]; rfl
  simp only [Option.bind_some, e]
  exact hr
/-- A call that writes into a part of a mutable value that came by reference. -/
theorem pCT {f : Operand} {args : Array Operand} {ats : Array TypeId} {g : FuncId} {vs vs' cs : List V} {r : V} {R : Heap → β → Prop} {Fs : List Nat} {y y' : β} {p : Heap → Prop} (hO : Owns H G rs) (j : Nat) (hsub : Sub G R F cs Fs y) (hF : ∀ b ∈ F, b ∈ S) (hFr : Sees H0 H S) (hS : ∀ b ∈ S, unlocked lk b = true)
    (hr : (∀ b ∈ Fs, b < G.length) → (∀ b ∈ Fs, unlocked (lk ++ [[]]) b = true) → TrIn G y cs Fs → ∃ v H1, runL P h g vs' G (lk ++ [[]]) = some (v, H1) ∧ v = r ∧ TrIn H1 y' cs Fs ∧ H1.length = G.length ∧ ∀ b, b ∉ Fs → H1[b]? = G[b]?)
    (k : ∀ H' G', Sees H0 H' S → Owns H' G' (rs.set j (.tree S F fun G => R G y')) → wpR (cxL P h fk n base lk) ops l ⟨upd T d r, G'⟩ Q)
    (hj : rs[j]? = some (.tree S F p) := by rfl) (h1 : ev T f = some (.fn g []) := by rfl) (h2 : evL T args.toList = some vs := by rfl) (h3 : lendArgs ((cxL P h fk n base lk).care s false) (h.modes g) G (vs ++ []) = some (vs', [], G) := by rfl) (hg : h.grow g = false := by rfl) (hd : Nat.blt d n = true := by rfl) :
    wpR (cxL P h fk n base lk) ops ((s, false, ⟨some d, .call ⟨.value f, args, ats⟩, ty, pos, aft, none⟩) :: l) ⟨T, G⟩ Q := by
  obtain ⟨v, H1, hv, rfl, ht, hl, hs⟩ := hr (fun b hb => ((hO.tree hj).2 b (hsub.sub b hb)).1) (fun b hb => unlocked_nil (hS b (hF b (hsub.sub b hb)))) hsub.tr
  have hs' : ∀ b, b ∉ F → H1[b]? = G[b]? := fun b hb => hs b fun h => hb (hsub.sub b h)
  exact pV (call_ref hv h1 h2 h3 hg) hd (k _ _ (hFr.chg hO hj hl hs') (hO.chg hj hl hs' fun G2 h2 => hsub.fr _ _ _ (hsub.back H1 y' hs ht) h2))
/-- The same, into an own one. -/
theorem pCTo {f : Operand} {args : Array Operand} {ats : Array TypeId} {g : FuncId} {vs vs' cs : List V} {r : V} {R : Heap → β → Prop} {Fs : List Nat} {y y' : β} {p : Heap → Prop} (hO : Owns H G rs) (j : Nat) (hsub : Sub G R F cs Fs y) (hlo : LkOk lk H.length)
    (hr : (∀ b ∈ Fs, b < G.length) → (∀ b ∈ Fs, unlocked (lk ++ [[]]) b = true) → TrIn G y cs Fs → ∃ v H1, runL P h g vs' G (lk ++ [[]]) = some (v, H1) ∧ v = r ∧ TrIn H1 y' cs Fs ∧ H1.length = G.length ∧ ∀ b, b ∉ Fs → H1[b]? = G[b]?)
    (k : ∀ G', Owns H G' (rs.set j (.tree [] F fun G => R G y')) → wpR (cxL P h fk n base lk) ops l ⟨upd T d r, G'⟩ Q)
    (hj : rs[j]? = some (.tree [] F p) := by rfl) (h1 : ev T f = some (.fn g []) := by rfl) (h2 : evL T args.toList = some vs := by rfl) (h3 : lendArgs ((cxL P h fk n base lk).care s false) (h.modes g) G (vs ++ []) = some (vs', [], G) := by rfl) (hg : h.grow g = false := by rfl) (hd : Nat.blt d n = true := by rfl) :
    wpR (cxL P h fk n base lk) ops ((s, false, ⟨some d, .call ⟨.value f, args, ats⟩, ty, pos, aft, none⟩) :: l) ⟨T, G⟩ Q := by
  have hun : ∀ b ∈ F, unlocked lk b = true := fun b hb => hlo.freeO (Nat.not_lt.1 fun h => by cases ((hO.tree hj).2 b hb).2 h)
  obtain ⟨v, H1, hv, rfl, ht, hl, hs⟩ := hr (fun b hb => ((hO.tree hj).2 b (hsub.sub b hb)).1) (fun b hb => unlocked_nil (hun b (hsub.sub b hb))) hsub.tr
  have hs' : ∀ b, b ∉ F → H1[b]? = G[b]? := fun b hb => hs b fun h => hb (hsub.sub b h)
  exact pV (call_ref hv h1 h2 h3 hg) hd (k _ (hO.chgO hj hl hs' fun G2 h2 => hsub.fr _ _ _ (hsub.back H1 y' hs ht) h2))
/-- The whole of a mutable value is a part of it. -/
theorem Sub.all {j : Nat} {x : α} {cs : List V} (hO : Owns H G rs) (hj : rs[j]? = some (Tree S F x cs)) : Sub G (fun G' y => TrIn G' y cs F) F cs F x :=
  ⟨(hO.tree hj).1, fun _ h => h, fun _ _ _ hR hg => hR.mono hg, fun _ _ _ h => h⟩

/-! ### The end of a call that wrote into what it got -/
theorem tree_start {x : α} {cs : List V} (h : TrIn H x cs F) (hF : ∀ b ∈ F, b < H.length) : Owns H H [Tree F F x cs] where
  pre := fun _ _ => rfl
  len := Nat.le_refl _
  ok := fun r hr => by
    simp only [List.mem_singleton] at hr
    subst hr
    exact tree_ok h fun b hb => ⟨hF b hb, fun _ => hb⟩
  apart := List.pairwise_singleton ..
theorem finT {x : α} {cs : List V} {k d : Nat} {lr : List ResultVar} {vs : List V} {v : V} {xx : X} (hO : Owns H G rs) (j : Nat) (hFr : Sees H0 H F) (hF : ∀ b ∈ F, b < H0.length) (hj : rs[j]? = some (Tree F F x cs) := by rfl) (h1 : resultsK P G T lr = some vs := by rfl) (h2 : oneOf vs = v := by rfl)
    (h3 : resV (h.thaw k) H0.length d depthK (G, []) v = some (v, (G, [])) := by rfl) (hg : h.grow k = false := by rfl) (hx : xx = .normal ∨ xx = .ret := by first | exact Or.inl rfl | exact Or.inr rfl) :
    FinR P h k H0.length d lr (fun v1 H1 => v1 = v ∧ TrIn H1 x cs F ∧ H1.length = H0.length ∧ ∀ b, b ∉ F → H1[b]? = H0[b]?) xx ⟨T, G⟩ := by
  have hl : H0.length ≤ G.length := by rw [← hFr.1]; exact hO.len
  refine ⟨hx, v, G.take H0.length, ?_, rfl, (hO.tree hj).1.mono fun b hb => ?_, by rw [List.length_take]; omega, fun b hb => ?_⟩
  · simp only [h1, Option.bind_some, h2, leaveK, hg, Bool.false_eq_true, if_false, h3, Option.map_some, List.append_nil]
  · rw [List.getElem?_take, if_pos (hF b hb)]
  · rw [List.getElem?_take]
    split
    · rename_i hlt
      rw [hO.pre b (by rw [hFr.1]; exact hlt)]
      exact hFr.2 b hb
    · rename_i hge
      rw [List.getElem?_eq_none (by omega)]

/-! ### Fresh values as results -/
/-- A value leaves, its lists in new blocks of the caller's. -/
def ThV {α : Type} [GoT α] [GoM α] (n : Nat) (H : Heap) (d : Nat) (rs : List Res) (cs : List V) (x : α) (rs' : List Res) : Prop := ∀ X : Heap × List Blk, Owns H X.1 rs → ∀ k, ∃ cs' X1 L F', resV.resL (resV true H.length d (k + n)) X cs = some (cs', X1, X.2 ++ L) ∧ Owns H X1 rs' ∧ F'.Nodup ∧
  (∀ b ∈ F', H.length + X.2.length ≤ b ∧ b < H.length + X.2.length + L.length) ∧ ∀ A : Heap, A.length = H.length → GoM.tr (A ++ (X.2 ++ L)) x cs' F'
variable {rs1 rs2 : List Res} {dd : Nat}
theorem th_int (x : Int) : ThV 1 H dd rs [.int .i64 x] x rs := fun X hO k => ⟨_, X.1, [], [], by rw [List.append_nil]; rfl, hO, .nil, fun b hb => (by cases hb), fun _ _ => ⟨rfl, rfl⟩⟩
theorem th_bool (x : Bool) : ThV 1 H dd rs [.bool x] x rs := fun X hO k => ⟨_, X.1, [], [], by rw [List.append_nil]; rfl, hO, .nil, fun b hb => (by cases hb), fun _ _ => ⟨rfl, rfl⟩⟩
theorem th_str (x : ByteArray) : ThV 1 H dd rs [.str x] x rs := fun X hO k => ⟨_, X.1, [], [], by rw [List.append_nil]; rfl, hO, .nil, fun b hb => (by cases hb), fun _ _ => ⟨rfl, rfl⟩⟩
theorem th_nil (α : Type) [GoT α] [GoM α] : ThV 1 H dd rs [.tl 0 []] ([] : List α) rs := fun X hO k => ⟨[.tl 0 []], X.1, [], [], by rw [List.append_nil]; rfl, hO, .nil, fun b hb => (by cases hb), fun _ _ => .inl ⟨rfl, rfl, rfl⟩⟩
theorem th_up {n m : Nat} (hm : n ≤ m) {cs : List V} {x : α} (h : ThV n H dd rs cs x rs1) : ThV m H dd rs cs x rs1 := fun X hO k => by
  have := h X hO (k + (m - n))
  rwa [show k + (m - n) + n = k + m by omega] at this
theorem th_pair {n m : Nat} {c1 c2 : List V} {x : α} {y : β} (h1 : ThV n H dd rs c1 x rs1) (h2 : ThV m H dd rs1 c2 y rs2) : ThV (max n m) H dd rs (c1 ++ c2) (x, y) rs2 := fun X hO k => by
  obtain ⟨c1', X1, L1, F1, e1, o1, n1, b1, r1⟩ := th_up (Nat.le_max_left n m) h1 X hO k
  obtain ⟨c2', X2, L2, F2, e2, o2, n2, b2, r2⟩ := th_up (Nat.le_max_right n m) h2 (X1, X.2 ++ L1) o1 k
  simp only [List.length_append] at b2
  refine ⟨c1' ++ c2', X2, L1 ++ L2, F1 ++ F2, by rw [← List.append_assoc]; exact resL_append e1 e2, o2, ?_, fun b hb => ?_, fun A hA => ⟨c1', c2', F1, F2, rfl, rfl, GoM.frame (r1 A hA) fun b hb => ?_, by rw [← List.append_assoc X.2]; exact r2 A hA⟩⟩
  · rw [List.nodup_append]
    refine ⟨n1, n2, fun x hx y hy e => ?_⟩
    have := b1 x hx
    have := b2 y hy
    omega
  · rw [List.length_append]
    rcases List.mem_append.1 hb with hb | hb
    · have := b1 b hb; omega
    · have := b2 b hb; omega
  · rw [← List.append_assoc X.2, ← List.append_assoc A (X.2 ++ L1), List.getElem?_append_left]
    rw [List.length_append, List.length_append, hA]
    have := b1 b hb
    omega
theorem drop_chg {j : Nat} (hO : Owns H G rs) {p : Heap → Prop} (hj : rs[j]? = some (.tree [] F p)) (hl : H.length ≤ G'.length) (hs : ∀ b, b ∉ F → G'[b]? = G[b]?) : Owns H G' (rs.eraseIdx j) where
  pre := fun b hb => by rw [hs b fun h => by cases ((hO.tree hj).2 b h).2 hb]; exact hO.pre b hb
  len := hl
  ok := fun r hr => by
    obtain ⟨i, hi, e⟩ := List.mem_iff_getElem.1 hr
    rw [List.getElem_eraseIdx] at e
    obtain ⟨hj1, hj2⟩ := List.getElem?_eq_some_iff.1 hj
    have hp := List.pairwise_iff_getElem.1 hO.apart
    have hi2 : i < rs.length - 1 := by rw [List.length_eraseIdx] at hi; split at hi <;> omega
    split at e
    · rename_i h
      subst e
      exact Res.ok_mono (hO.ok _ (List.getElem_mem (by omega))) fun y hy => hs y fun hyF => hp i j (by omega) hj1 h y hy (by rw [hj2]; exact hyF)
    · rename_i h
      subst e
      exact Res.ok_mono (hO.ok _ (List.getElem_mem (by omega))) fun y hy => hs y fun hyF => hp j (i + 1) hj1 (by omega) (by omega) y (by rw [hj2]; exact hyF) hy
  apart := hO.apart.sublist (List.eraseIdx_sublist _ _)
theorem th_tree {x : α} {cs : List V} (j : Nat) (hj : rs[j]? = some (Tree [] F x cs) := by rfl) : ThV (GoM.dep α) H dd rs cs x (rs.eraseIdx j) := fun X hO k => by
  obtain ⟨⟨F', n, hF, ht⟩, hbd⟩ := hO.tree hj
  obtain ⟨cs', X1, L, F2, e, s1, n1, b1, r1⟩ := GoM.res ht n H.length dd (fun b hb => Nat.not_lt.1 fun h => by cases (hbd b (hF b hb)).2 h) k X fun _ _ => rfl
  refine ⟨cs', X1, L, F2, e, ?_, n1, b1, r1⟩
  have hs : ∀ b, b ∉ F → X1[b]? = X.1[b]? := fun b hb => s1 b fun h => hb (hF b h)
  refine drop_chg hO hj ?_ hs
  rcases Nat.eq_zero_or_pos H.length with h0 | h0
  · omega
  · have h1 : X1[H.length - 1]? = X.1[H.length - 1]? := hs _ fun h => by cases (hbd _ h).2 (by omega)
    have h2 : H.length - 1 < X.1.length := by have := hO.len; omega
    rw [List.getElem?_eq_getElem h2] at h1
    have := (List.getElem?_eq_some_iff.1 h1).1
    omega
/-- Values without lists. -/
class GoFl (α : Type) [GoT α] [GoM α] : Prop where
  fl : ∀ G (x : α), GoM.tr G x (GoT.encL 0 x) []
  lev : ∀ l (x : α), GoT.encL l x = GoT.encL 0 x
  pos : 0 < GoM.dep α
instance : GoFl Int := ⟨fun _ _ => ⟨rfl, rfl⟩, fun _ _ => rfl, Nat.one_pos⟩
instance : GoFl Bool := ⟨fun _ _ => ⟨rfl, rfl⟩, fun _ _ => rfl, Nat.one_pos⟩
instance : GoFl ByteArray := ⟨fun _ _ => ⟨rfl, rfl⟩, fun _ _ => rfl, Nat.one_pos⟩
instance [GoFl α] [GoFl β] : GoFl (α × β) := ⟨fun G x => ⟨_, _, [], [], rfl, rfl, GoFl.fl G x.1, GoFl.fl G x.2⟩, fun l x => by show GoT.encL l x.1 ++ GoT.encL l x.2 = GoT.encL 0 x.1 ++ GoT.encL 0 x.2; rw [GoFl.lev l x.1, GoFl.lev l x.2], Nat.lt_of_lt_of_le (GoFl.pos (α := α)) (Nat.le_max_left _ _)⟩
theorem flat_lv [GoFl α] (l : Nat) : ∀ (xs : List α), flatL l xs = (flatL 0) xs
  | [] => rfl
  | x :: xs => by rw [flat_cons, flat_cons, GoFl.lev, flat_lv l xs]
theorem ld_trF [GoFl α] {xs : List α} {v : V} {j : Nat} (hO : Owns H G rs) (hj : rs[j]? = some (Tree S F xs [v])) (lv n : Nat) (hn : Nat.ble (GoM.dep (List α)) n = true := by rfl) : ∃ M, lendV lv G n v = some (.lit lv xs.length ((flatL 0) xs), M) := by
  have := ld_tr hO hj lv n hn
  rwa [flat_lv] at this
theorem flat_tr [GoFl α] : ∀ (xs : List α), trL GoM.tr G xs ((flatL 0) xs) []
  | [] => ⟨rfl, rfl⟩
  | x :: xs => ⟨_, _, [], [], rfl, rfl, GoFl.fl G x, flat_tr xs⟩
theorem th_blk [GoFl α] {xs : List α} {v : V} {X : Heap × List Blk} {X1 : Heap} {k : Nat} (hO : Owns H X1 rs1) (h : resV true H.length dd k X v = some (.sl (H.length + X.2.length) 0 xs.length, X1, X.2 ++ [.cells (GoT.sz α) ((flatL 0) xs)])) :
    ∃ cs' X1 L F', resV.resL (resV true H.length dd k) X [v] = some (cs', X1, X.2 ++ L) ∧ Owns H X1 rs1 ∧ F'.Nodup ∧ (∀ b ∈ F', H.length + X.2.length ≤ b ∧ b < H.length + X.2.length + L.length) ∧ ∀ A : Heap, A.length = H.length → GoM.tr (A ++ (X.2 ++ L)) xs cs' F' := by
  refine ⟨[.sl (H.length + X.2.length) 0 xs.length], X1, [.cells (GoT.sz α) ((flatL 0) xs)], [H.length + X.2.length], by simp only [resV.resL, h, Option.bind_some, Option.map_some], hO, by simp, fun c hc => ?_, fun A hA => .inr ⟨_, _, [], rfl, ?_, flat_tr xs, rfl⟩⟩
  · simp only [List.mem_singleton] at hc
    subst hc
    exact ⟨Nat.le_refl _, by simp⟩
  · rw [← List.append_assoc, List.getElem?_append_right (by rw [List.length_append, hA]; exact Nat.le_refl _), List.length_append, hA, Nat.sub_self]; rfl
theorem th_own [GoFl α] {xs : List α} {v : V} {d1 sz : Nat} (hz : Nz v) (hd : 0 < dd) (j : Nat) (hj : rs[j]? = some (.own v d1 sz xs.length ((flatL 0) xs)) := by rfl) (hdd : d1 = dd := by rfl) (hsz : sz = GoT.sz α := by rfl) : ThV 2 H dd rs [v] xs (rs.eraseIdx j) := fun X hO k => by
  subst hdd hsz
  obtain ⟨hl, rfl | ⟨b, rfl, hbb, hgb⟩⟩ := hO.own hj
  · have h0 := hz _ _ rfl
    have : xs = [] := List.eq_nil_of_length_eq_zero h0
    subst this
    exact ⟨[.tl 0 []], X.1, [], [], by rw [List.append_nil]; rfl, hO.drop (List.eraseIdx_sublist _ _), .nil, fun b hb => (by cases hb), fun _ _ => .inl ⟨rfl, rfl, rfl⟩⟩
  · refine th_blk (hO.kill hj rfl) ?_
    have hcl := resL_clean (th := true) (lo := H.length) (d := d1) (k := k) (X := (X.1.set b .dead, X.2)) ((flatL 0) xs) (cleanL_up hd Nat.one_pos _ (flat_clean xs)) (flat_cell xs)
    rw [resV]
    simp only [hgb]
    rw [if_neg (by omega), hcl]
    simp only [Option.bind_some, if_true]
    rw [if_pos hl]
theorem th_made [GoFl α] {xs : List α} {b sz m : Nat} (hl : xs.length = m) (hd : 0 < dd) (j : Nat) (hsz : sz = GoT.sz α := by rfl) (hj : rs[j]? = some (.blk b (.cells sz ((flatL 0) xs))) := by rfl) : ThV 2 H dd rs [.sl b 0 m] xs (rs.eraseIdx j) := fun X hO k => by
  subst hl hsz
  obtain ⟨hgb, hbb⟩ := hO.get hj
  refine th_blk (hO.kill hj rfl) ?_
  have hcl := resL_clean (th := true) (lo := H.length) (d := dd) (k := k) (X := (X.1.set b .dead, X.2)) ((flatL 0) xs) (cleanL_up hd Nat.one_pos _ (flat_clean xs)) (flat_cell xs)
  have e0 : ¬ (((flatL 0) xs).length < 0 + xs.length * GoT.sz α) := by rw [flat_len]; omega
  have e1 : (List.drop 0 ((flatL 0) xs)).take (xs.length * GoT.sz α) = (flatL 0) xs := by rw [List.drop_zero]; exact List.take_of_length_le (by rw [flat_len]; exact Nat.le_refl _)
  rw [resV, if_neg (by omega)]
  simp only [hgb]
  rw [if_neg e0, e1, hcl]
  simp only [Option.bind_some, if_true]
  rw [if_pos ⟨trivial, by rw [flat_len]⟩]
/-- What a fresh result is. -/
def FreshL {α : Type} [GoT α] [GoM α] (H : Heap) (xs : List α) (v : V) (H1 : Heap) : Prop := ∃ L F, H1 = H ++ L ∧ F.Nodup ∧ (∀ b ∈ F, H.length ≤ b) ∧ GoM.tr H1 xs [v] F
def FreshS {α : Type} [GoT α] [GoM α] (H : Heap) (x : α) (v : V) (H1 : Heap) : Prop := ∃ cs L F, v = .agg cs ∧ H1 = H ++ L ∧ F.Nodup ∧ (∀ b ∈ F, H.length ≤ b) ∧ GoM.tr H1 x cs F
theorem th_take {X1 : Heap} (hO : Owns H X1 rs1) : X1.take H.length = H := hO.out
theorem finThL {xs : List α} {n k : Nat} {lr : List ResultVar} {vs : List V} {v : V} {xx : X} (hO : Owns H G rs) (hz : ThV n H dd rs [v] xs rs1) (h1 : resultsK P G T lr = some vs) (h2 : oneOf vs = v := by rfl) (hn : Nat.ble n depthK = true := by rfl) (hg : h.grow k = false := by rfl) (ht : h.thaw k = true := by rfl) (hx : xx = .normal ∨ xx = .ret := by first | exact Or.inl rfl | exact Or.inr rfl) :
    FinR P h k H.length dd lr (FreshL H xs) xx ⟨T, G⟩ := by
  obtain ⟨cs', X1, L, F', e, o, n1, b1, r1⟩ := hz (G, []) hO (depthK - n)
  rw [Nat.sub_add_cancel (Nat.le_of_ble_eq_true hn)] at e
  have hr := r1 H rfl
  obtain ⟨v', rfl⟩ := List.length_eq_one_iff.1 (show cs'.length = 1 from GoM.len hr)
  have e' : resV true H.length dd depthK (G, []) v = some (v', X1, L) := by
    simp only [resV.resL, Option.bind_eq_some_iff, Option.map_eq_some_iff, Prod.exists, Prod.mk.injEq, Option.some.injEq] at e
    obtain ⟨a, H2, L2, q1, w, H3, L3, ⟨rfl, rfl, rfl⟩, q3, rfl, q4⟩ := e
    simp only [List.cons.injEq, and_true] at q3
    simp only [List.nil_append] at q4
    subst q3 q4
    exact q1
  refine ⟨hx, v', H ++ L, ?_, L, F', rfl, n1, fun b hb => (b1 b hb).1, by simpa using hr⟩
  simp only [h1, Option.bind_some, h2, leaveK, hg, Bool.false_eq_true, if_false, ht, e', Option.map_some, o.out]
theorem finThS {x : α} {cs : List V} {n k : Nat} {lr : List ResultVar} {vs : List V} {xx : X} (hO : Owns H G rs) (hz : ThV n H dd rs cs x rs1) (h1 : resultsK P G T lr = some vs) (h2 : oneOf vs = .agg cs := by rfl) (hn : Nat.ble (n + 1) depthK = true := by rfl) (hg : h.grow k = false := by rfl) (ht : h.thaw k = true := by rfl) (hx : xx = .normal ∨ xx = .ret := by first | exact Or.inl rfl | exact Or.inr rfl) :
    FinR P h k H.length dd lr (FreshS H x) xx ⟨T, G⟩ := by
  have hn' := Nat.le_of_ble_eq_true hn
  obtain ⟨cs', X1, L, F', e, o, n1, b1, r1⟩ := hz (G, []) hO (depthK - 1 - n)
  rw [show depthK - 1 - n + n = depthK - 1 by omega] at e
  have hr := r1 H rfl
  have e' : resV true H.length dd depthK (G, []) (.agg cs) = some (.agg cs', X1, L) := by
    show (resV.resL (resV true H.length dd (depthK - 1)) (G, []) cs).map _ = _
    rw [e]; rfl
  refine ⟨hx, .agg cs', H ++ L, ?_, cs', L, F', rfl, rfl, n1, fun b hb => (b1 b hb).1, by simpa using hr⟩
  simp only [h1, Option.bind_some, h2, leaveK, hg, Bool.false_eq_true, if_false, ht, e', Option.map_some, o.out]
theorem Owns.fresh {x : α} {cs : List V} {L : List Blk} (hO : Owns H G rs) (hn : F.Nodup) (hb : ∀ b ∈ F, G.length ≤ b) (ht : GoM.tr (G ++ L) x cs F) : Owns H (G ++ L) (Tree [] F x cs :: rs) where
  pre := fun b hb => by rw [List.getElem?_append_left (Nat.lt_of_lt_of_le hb hO.len)]; exact hO.pre b hb
  len := by rw [List.length_append]; have := hO.len; omega
  ok := fun r hr => by
    rcases List.mem_cons.1 hr with rfl | hr
    · refine tree_ok ⟨F, hn, fun _ h => h, ht⟩ fun b h => ⟨GoM.bound ht b h, fun hlt => ?_⟩
      have := hb b h
      have := hO.len
      omega
    · have h1 := hO.ok r hr
      exact Res.ok_mono h1 fun x hx => by rw [List.getElem?_append_left (Res.nums_lt h1 hx)]
  apart := List.pairwise_cons.2 ⟨fun r hr x hx hx' => by
    have := Res.nums_lt (hO.ok r hr) hx'
    have := hb x hx
    omega, hO.apart⟩
/-- A call that gives back a fresh mutable list. -/
theorem pCN {f : Operand} {args : Array Operand} {ats : Array TypeId} {g : FuncId} {caps vs vs' : List V} {M : List Nat} {xs : List α} (hO : Owns H G rs) (hr : ∀ L, ∃ v H1, runL P h g vs' G (lk ++ [L]) = some (v, H1) ∧ FreshL G xs v H1)
    (k : ∀ v F G', Owns H G' (Tree [] F xs [v] :: rs) → wpR (cxL P h fk n base lk) ops l ⟨upd T d v, G'⟩ Q) (h1 : ev T f = some (.fn g caps) := by rfl) (h2 : evL T args.toList = some vs := by rfl)
    (h3 : lendArgs ((cxL P h fk n base lk).care s kk) (h.modes g) G (vs ++ caps) = some (vs', M, G) := by rfl) (hd : Nat.blt d n = true := by rfl) :
    wpR (cxL P h fk n base lk) ops ((s, kk, ⟨some d, .call ⟨.value f, args, ats⟩, ty, pos, aft, none⟩) :: l) ⟨T, G⟩ Q := by
  obtain ⟨v, H1, e, L, F, rfl, hn, hb, ht⟩ := hr (((cxL P h fk n base lk).care s kk).locksFor g M G)
  refine pV ?_ hd (k v F _ (hO.fresh hn hb ht))
  rw [opV_call]
  simp only [h1, h2, Option.bind_some, fnOf]
  show (lendArgs ((cxL P h fk n base lk).care s kk) (h.modes g) G (vs ++ caps)).bind _ = _
  rw [h3]
  exact e
/-- The same for a struct. -/
theorem pCNs {f : Operand} {args : Array Operand} {ats : Array TypeId} {g : FuncId} {caps vs vs' : List V} {M : List Nat} {x : α} (hO : Owns H G rs) (hr : ∀ L, ∃ v H1, runL P h g vs' G (lk ++ [L]) = some (v, H1) ∧ FreshS G x v H1)
    (k : ∀ cs F G', Owns H G' (Tree [] F x cs :: rs) → wpR (cxL P h fk n base lk) ops l ⟨upd T d (.agg cs), G'⟩ Q) (h1 : ev T f = some (.fn g caps) := by rfl) (h2 : evL T args.toList = some vs := by rfl)
    (h3 : lendArgs ((cxL P h fk n base lk).care s kk) (h.modes g) G (vs ++ caps) = some (vs', M, G) := by rfl) (hd : Nat.blt d n = true := by rfl) :
    wpR (cxL P h fk n base lk) ops ((s, kk, ⟨some d, .call ⟨.value f, args, ats⟩, ty, pos, aft, none⟩) :: l) ⟨T, G⟩ Q := by
  obtain ⟨v, H1, e, cs, L, F, rfl, rfl, hn, hb, ht⟩ := hr (((cxL P h fk n base lk).care s kk).locksFor g M G)
  refine pV ?_ hd (k cs F _ (hO.fresh hn hb ht))
  rw [opV_call]
  simp only [h1, h2, Option.bind_some, fnOf]
  show (lendArgs ((cxL P h fk n base lk).care s kk) (h.modes g) G (vs ++ caps)).bind _ = _
  rw [h3]
  exact e
/-- 'make' of a list whose elements bear lists. -/
theorem trL_rep {z : α} {c : List V} (hz : ∀ G, GoM.tr G z c []) : ∀ m, trL GoM.tr G (List.replicate m z) (List.replicate m c).flatten []
  | 0 => ⟨rfl, rfl⟩
  | m + 1 => ⟨c, _, [], [], rfl, rfl, hz G, trL_rep hz m⟩
theorem pMkT {a : Int} {m by_ : Nat} {t e : TypeId} {y z' : Operand} (hO : Owns H G rs) (hm : makeB by_ a = some m) (zv : α) (he : elemT P t = some e) (hz : szOf P e = some (GoT.sz α)) (hb : bytesOf P e = some by_) {z : List V} (hzero : zeroOf P e = some z) (h0 : ∀ G, GoM.tr G zv (z.map (nilIf (h.keep fk))) [])
    (k : ∀ b G', Owns H G' (Tree [] [b] (List.replicate m zv) [.sl b 0 m] :: rs) → wpR (cxL P h fk n base lk) ops l ⟨upd T d (.sl b 0 m), G'⟩ Q)
    (h1 : ev T y = some (.int .i64 a) := by rfl) (h2 : ev T z' = some (.int .i64 a) := by rfl) (hd : Nat.blt d n = true := by rfl) :
    wpR (cxL P h fk n base lk) ops ((s, kk, ⟨some d, .makeSlice t y z', ty, pos, aft, none⟩) :: l) ⟨T, G⟩ Q := by
  unfold makeB at hm
  split at hm
  case isFalse => cases hm
  rename_i hc
  simp only [Option.some.injEq] at hm
  subst hm
  refine pV ?_ hd (k G.length (G ++ [.cells (GoT.sz α) (List.replicate a.toNat (z.map (nilIf (h.keep fk)))).flatten]) (hO.fresh (by simp) (fun b hb => by simp only [List.mem_singleton] at hb; omega) (.inr ⟨G.length, (List.replicate a.toNat (z.map (nilIf (h.keep fk)))).flatten, [], by rw [List.length_replicate], push_get _ _, trL_rep h0 _, rfl⟩)))
  rw [opV_makeSlice]
  simp only [h1, h2, Option.bind_some, makeK]
  show (elemT P t).bind _ = _
  rw [he, Option.bind_some]
  show (szOf P e).bind _ = _
  rw [hz, Option.bind_some]
  show (bytesOf P e).bind _ = _
  rw [hb, Option.bind_some]
  show (zeroOf P e).bind _ = _
  rw [hzero, Option.bind_some, if_pos ⟨trivial, hc.1, hc.2, by rw [← List.length_map (f := nilIf (h.keep fk))]; exact GoM.len (h0 []), Nat.pos_iff_ne_zero.1 (GoT.pos)⟩]
  rfl
end

end Go.Proofs.Ytblodpbcinkehaa.K
