/-
  Parts of snapshots: a callee that is handed a snapshot of its caller's and gives back a part of it. No conditions.
-/
import Derived.Test.YtblodpbcinkehaaKzp
set_option linter.unusedVariables false
set_option linter.unusedSimpArgs false
namespace Go.Proofs.Ytblodpbcinkehaa.K

section
variable {α : Type} [GoT α] {H G : Heap} {rs rs1 : List Res} {F : List Nat} {xs : List α} {w : V} {d : Nat}
/-- A part of a snapshot of a builder among 'F'. -/
def PreV (G : Heap) (F : List Nat) (xs : List α) (w : V) : Prop := (w = .tl 0 [] ∧ xs = []) ∨ ∃ b m l, b ∈ F ∧ w = .pre b m xs.length (flatL 0 xs) ∧ G[b]? = some (.bld l m (GoT.sz α))
abbrev PreR (H : Heap) (F : List Nat) (xs : List α) (w : V) : Res := .tree [] [] fun _ => PreV H F xs w
/-- The same of a builder of one's own. -/
def PreW (d : Nat) (G : Heap) (F : List Nat) (xs : List α) (w : V) : Prop := (w = .tl 0 [] ∧ xs = []) ∨ ∃ b m, b ∈ F ∧ w = .pre b m xs.length (flatL 0 xs) ∧ G[b]? = some (.bld d m (GoT.sz α))
abbrev PreO (d : Nat) (F : List Nat) (xs : List α) (w : V) : Res := .tree [] F fun G => PreW d G F xs w
def PShape (xs : List α) (w : V) : Prop := (w = .tl 0 [] ∧ xs = []) ∨ ∃ b m, w = .pre b m xs.length (flatL 0 xs)
theorem pre_sh {H0 : Heap} {j : Nat} (hO : Owns H G rs) (hj : rs[j]? = some (PreR H0 F xs w)) : PShape xs w := by
  rcases (hO.tree hj).1 with h | ⟨b, m, l, _, h, _⟩
  · exact .inl h
  · exact .inr ⟨b, m, h⟩
theorem preo_sh {j : Nat} (hO : Owns H G rs) (hj : rs[j]? = some (PreO d F xs w)) : PShape xs w := by
  rcases (hO.tree hj).1 with h | ⟨b, m, _, h, _⟩
  · exact .inl h
  · exact .inr ⟨b, m, h⟩
theorem bears_sh (h : PShape xs w) : Bears G w xs := by
  rcases h with ⟨rfl, rfl⟩ | ⟨b, m, rfl⟩
  · exact ⟨rfl, rfl⟩
  · exact ⟨rfl, rfl⟩
theorem sh_cells (h : PShape xs w) : w.cellsOf = [w] ∧ w.isCell = true := by
  rcases h with ⟨rfl, rfl⟩ | ⟨b, m, rfl⟩ <;> exact ⟨rfl, rfl⟩
theorem ld_sh (h : PShape xs w) (lv k : Nat) : lendV lv G (k + 2) w = some (.lit lv xs.length (flatL 0 xs), []) := by
  rcases h with ⟨rfl, rfl⟩ | ⟨b, m, rfl⟩
  · rfl
  · rw [lendV, lendL_clean _ (flat_clean xs) (flat_cell xs)]; rfl
theorem pre_start (hw : PreV H F xs w) : Owns H H [PreR H F xs w] where
  pre := fun _ _ => rfl
  len := Nat.le_refl _
  ok := fun r hr => by
    simp only [List.mem_singleton] at hr
    subst hr
    exact ⟨fun b hb => (by cases hb), fun _ _ => hw⟩
  apart := by simp
theorem flat_take (xs : List α) (m : Nat) : (flatL 0 xs).take (m * GoT.sz α) = flatL 0 (xs.take m) := by
  have := flat_sub (lm := 0) xs 0 m
  simpa using this
/-- A block of a resource that is given up is dead. -/
theorem Owns.killT {r : Res} {j b : Nat} {x : Blk} (hO : Owns H G rs) (hj : rs[j]? = some r) (hb : b ∈ r.nums) (hlo : H.length ≤ b) : Owns H (G.set b x) (rs.eraseIdx j) where
  pre := fun c hc => by rw [set_get, if_neg (by omega)]; exact hO.pre c hc
  len := by rw [List.length_set]; exact hO.len
  ok := fun r' hr' => by
    obtain ⟨hj1, hj2⟩ := List.getElem?_eq_some_iff.1 hj
    obtain ⟨i, hi, rfl⟩ := List.mem_iff_getElem.1 hr'
    have hp := List.pairwise_iff_getElem.1 hO.apart
    have key : ∀ q (hq : q < rs.length), q ≠ j → Res.ok H (G.set b x) rs[q] := fun q hq hne => by
      refine Res.ok_mono (hO.ok _ (List.getElem_mem hq)) fun c hc => ?_
      rw [set_get, if_neg]
      rintro ⟨rfl, _⟩
      rcases Nat.lt_or_ge q j with h | h
      · exact hp q j hq hj1 h _ hc (by rw [hj2]; exact hb)
      · exact hp j q hj1 hq (by omega) _ (by rw [hj2]; exact hb) hc
    rw [List.getElem_eraseIdx]
    split
    · exact key _ _ (by omega)
    · exact key _ _ (by omega)
  apart := hO.apart.sublist (List.eraseIdx_sublist _ _)
theorem th_pre [GoM α] [GoFl α] {dd : Nat} (hd : 0 < dd) (j : Nat) (hj : rs[j]? = some (PreO dd F xs w) := by rfl) : ThV 2 H dd rs [w] xs (rs.eraseIdx j) := fun X hO k => by
  obtain ⟨hp, hb⟩ := hO.tree hj
  rcases hp with ⟨rfl, rfl⟩ | ⟨b, m, hbF, rfl, hg⟩
  · exact ⟨[.tl 0 []], X.1, [], [], by rw [List.append_nil]; rfl, hO.drop (List.eraseIdx_sublist _ _), .nil, fun b hb => (by cases hb), fun _ _ => .inl ⟨rfl, rfl, rfl⟩⟩
  · have hlo : H.length ≤ b := Nat.le_of_not_lt fun h => by cases (hb b hbF).2 h
    refine th_blk (hO.killT hj hbF hlo (x := .dead)) ?_
    have hcl := resL_clean (th := true) (lo := H.length) (d := dd) (k := k) (X := (X.1.set b .dead, X.2)) (flatL 0 xs) (cleanL_up hd Nat.one_pos _ (flat_clean xs)) (flat_cell xs)
    rw [resV]
    simp only [hg]
    rw [if_neg (by simp), if_neg (by omega), if_neg (by omega), hcl]
    simp only [Option.bind_some, if_true]
    rw [if_pos (flat_len xs)]
def isPl : V → Bool
  | .int .. | .bool _ | .str _ => true
  | _ => false
theorem resL_pl {th : Bool} {lo d k : Nat} {X : Heap × List Blk} : ∀ (cs : List V), cs.all isPl = true → resV.resL (resV th lo d (k + 1)) X cs = some (cs, X)
  | [], _ => rfl
  | c :: cs, h => by
    simp only [List.all_cons, Bool.and_eq_true] at h
    have : resV th lo d (k + 1) X c = some (c, X) := by cases c <;> first | rfl | (exfalso; simp [isPl] at h)
    simp only [resV.resL, this, Option.bind_some, resL_pl cs h.2, Option.map_some]
theorem finPre {P : Program} {h : Hints} {k : Nat} {lr : List ResultVar} {T : Nat → V} {vs cs : List V} {x : X} (hO : Owns H G rs) (j : Nat) (hd : 0 < d) (h1 : resultsK P G T lr = some vs) (hj : rs[j]? = some (PreR H F xs w) := by rfl) (h2 : oneOf vs = .agg (cs ++ [w]) := by rfl) (hcs : cs.all isPl = true := by rfl)
    (hg : h.grow k = false := by rfl) (ht : h.thaw k = true := by rfl) (hx : x = .normal ∨ x = .ret := by first | exact Or.inl rfl | exact Or.inr rfl) : FinR P h k H.length d lr (fun v H1 => H1 = H ∧ ∃ w, v = .agg (cs ++ [w]) ∧ PreV H F xs w) x ⟨T, G⟩ := by
  have hw := (hO.tree hj).1
  have ew : resV true H.length d 7 (G, []) w = some (w, G, []) := by
    rcases hw with ⟨rfl, rfl⟩ | ⟨b, m, l, hb, rfl, hl⟩
    · rfl
    · have hlt := (List.getElem?_eq_some_iff.1 hl).1
      rw [resV]
      simp only [hO.pre b hlt, hl]
      rw [if_neg (by simp), if_pos hlt, if_pos (cleanL_up hd Nat.one_pos _ (flat_clean xs))]
  have e' : resV true H.length d depthK (G, []) (.agg (cs ++ [w])) = some (.agg (cs ++ [w]), G, []) := by
    show (resV.resL (resV true H.length d 7) (G, []) (cs ++ [w])).map _ = _
    rw [resL_append (resL_pl (k := 6) cs hcs) (show resV.resL (resV true H.length d 7) (G, []) [w] = some ([w], G, []) by simp only [resV.resL, ew, Option.bind_some, Option.map_some])]
    rfl
  refine ⟨hx, .agg (cs ++ [w]), H ++ [], ?_, List.append_nil _, w, rfl, hw⟩
  simp only [h1, Option.bind_some, h2, leaveK, hg, Bool.false_eq_true, if_false, ht, e', if_true, Option.map_some, hO.out]
end
section
variable {c : Cx} {G : Heap} {v v' : V} {vs vs' : List V} {M1 M2 : List Nat} {ms : List Mode}
theorem la_l (h1 : lendV (c.d + 1) G depthK v = some (v', M1)) (h2 : lendArgs c ms G vs = some (vs', M2, G)) : lendArgs c (.lent :: ms) G (v :: vs) = some (v' :: vs', M1 ++ M2, G) := by
  simp only [lendArgs, List.headD_cons, List.tail_cons, lendArg, h1, Option.map_some, Option.bind_some, h2]
theorem la_p (h2 : lendArgs c ms G vs = some (vs', M2, G)) : lendArgs c (.part :: ms) G (v :: vs) = some (partA v :: vs', [] ++ M2, G) := by
  simp only [lendArgs, List.headD_cons, List.tail_cons, lendArg, Option.bind_some, h2, Option.map_some]
theorem la_n : lendArgs c ms G [] = some ([], [], G) := rfl
end
section steps
variable {P : Program} {h : Hints} {fk n base : Nat} {lk : Lk} {ops : Array Oper} {s kk : Bool} {d : Nat} {ty : TypeId} {pos : String} {aft : Array Edge} {l : List (Bool × Bool × Oper)} {Q : St → Prop} {T : Nat → V} {G G' H : Heap} {rs : List Res}
variable {α : Type} [GoT α]
theorem pXP {xs : List α} {i : Int} {x : α} {t e : TypeId} {y z : Operand} {kd : IntKind} {v : V} (hs : PShape xs v) (hc : getI xs i = some x) (he : elemT P t = some e) (hz : szOf P e = some (GoT.sz α)) (k : ∀ lv, wpR (cxL P h fk n base lk) ops l ⟨upd T d (.lp lv (flatL 0 xs) (i.toNat * GoT.sz α)), G⟩ Q)
    (h1 : ev T y = some v := by rfl) (h2 : ev T z = some (.int kd i) := by rfl) (hd : Nat.blt d n = true := by rfl) :
    wpR (cxL P h fk n base lk) ops ((s, kk, ⟨some d, .indexAddr t y z, ty, pos, aft, none⟩) :: l) ⟨T, G⟩ Q := by
  rcases hs with ⟨rfl, rfl⟩ | ⟨b, m, rfl⟩
  · have := getI_lt hc; simp at this; omega
  · refine pV (v := .lp lk.length (flatL 0 xs) (i.toNat * GoT.sz α)) ?_ hd (k _)
    rw [opV_indexAddr]
    show (elemT P t).bind _ = _
    rw [he, Option.bind_some]
    show (szOf P e).bind _ = _
    simp only [hz, h1, h2, Option.bind_some, asInt, idxP, lenK]
    rw [if_pos (getI_lt hc)]
    rfl
/-- A part of what was handed over. -/
theorem pSlP {t e : TypeId} {x hi : Operand} {xs ys : List α} {i b : Int} {x0 : α} {k2 : IntKind} {v : V} {H0 : Heap} {F : List Nat} (hO : Owns H G rs) (j : Nat) (hc : getI xs i = some x0) (hs : subB xs 0 b = some ys) (he : elemT P t = some e) (hz : szOf P e = some (GoT.sz α))
    (k : ∀ w, Owns H G (PreR H0 F ys w :: rs) → wpR (cxL P h fk n base lk) ops l ⟨upd T d w, G⟩ Q) (h1 : ev T x = some v := by rfl) (h3 : ev T hi = some (.int k2 b) := by rfl) (hj : rs[j]? = some (PreR H0 F xs v) := by rfl) (hd : Nat.blt d n = true := by rfl) :
    wpR (cxL P h fk n base lk) ops ((s, kk, ⟨some d, .slice t x none (some hi) none, ty, pos, aft, none⟩) :: l) ⟨T, G⟩ Q := by
  obtain ⟨q0, q1, q2⟩ := subB_le hs
  have hy : ys = xs.take b.toNat := by
    unfold subB at hs
    rw [if_pos ⟨q0, q1, q2⟩] at hs
    simpa using hs.symm
  rcases (hO.tree hj).1 with ⟨rfl, rfl⟩ | ⟨bb, m, lv, hbF, rfl, hl⟩
  · have := getI_lt hc; simp at this; omega
  have hyl : ys.length = b.toNat := by rw [hy, List.length_take]; omega
  refine pV (v := .pre bb m b.toNat ((flatL 0 xs).take (b.toNat * GoT.sz α))) (G' := G) ?_ hd (k _ ⟨hO.pre, hO.len, fun r hr => ?_, List.pairwise_cons.2 ⟨fun r hr c hc => (by cases hc), hO.apart⟩⟩)
  · unfold opV opK
    simp only []
    rw [h1]
    simp only [Option.bind_some, lenK, boundK]
    rw [h3]
    simp only [if_pos q1, Option.bind_some]
    show (elemT P t).bind _ = _
    rw [he]
    show (szOf P e).bind _ = _
    rw [hz]
    simp only [Option.bind_some]
    rw [if_pos ⟨Nat.zero_le _, by omega⟩]
    rfl
  · rcases List.mem_cons.1 hr with rfl | hr
    · exact ⟨fun b hb => (by cases hb), fun _ _ => .inr ⟨bb, m, lv, hbF, by rw [flat_take, hy, List.length_take]; congr 1; omega, hl⟩⟩
    · exact hO.ok r hr
/-- A callee that gives back a part of a list that was appended to. -/
theorem pCPre {f : Operand} {args : Array Operand} {ats : Array TypeId} {g : FuncId} {caps vs vs' cs : List V} {M : List Nat} {xs ys : List α} {o : V} {sz : Nat} (hO : Owns H G rs) (j : Nat) (hnz : Nz o) (hr : ∀ L F, PreV G F xs (partV o) → ∃ v H1, runL P h g vs' G (lk ++ [L]) = some (v, H1) ∧ H1 = G ∧ ∃ w, v = .agg (cs ++ [w]) ∧ PreV G F ys w)
    (k : ∀ w F, Owns H G (rs.set j (PreO lk.length F ys w)) → wpR (cxL P h fk n base lk) ops l ⟨upd T d (.agg (cs ++ [w])), G⟩ Q)
    (h3 : lendArgs ((cxL P h fk n base lk).care s kk) (h.modes g) G (vs ++ caps) = some (vs', M, G)) (h1 : ev T f = some (.fn g caps) := by rfl) (h2 : evL T args.toList = some vs := by rfl) (hj : rs[j]? = some (.own o lk.length sz xs.length (flatL 0 xs)) := by rfl) (hsz : sz = GoT.sz α := by rfl) (hd : Nat.blt d n = true := by rfl) :
    wpR (cxL P h fk n base lk) ops ((s, kk, ⟨some d, .call ⟨.value f, args, ats⟩, ty, pos, aft, none⟩) :: l) ⟨T, G⟩ Q := by
  subst hsz
  have key : ∃ F, PreV G F xs (partV o) ∧ (∀ b ∈ F, b ∈ (Res.own o lk.length (GoT.sz α) xs.length (flatL 0 xs)).nums) ∧ (∀ b ∈ F, H.length ≤ b) ∧ ∀ b ∈ F, G[b]? = some (.bld lk.length xs.length (GoT.sz α)) := by
    rcases (hO.own hj).2 with rfl | ⟨b, rfl, hbb, hgb⟩
    · have h0 := hnz _ _ rfl
      have : xs = [] := List.eq_nil_of_length_eq_zero h0
      subst this
      exact ⟨[], .inl ⟨rfl, rfl⟩, fun b hb => (by cases hb), fun b hb => (by cases hb), fun b hb => by cases hb⟩
    · refine ⟨[b], .inr ⟨b, _, _, by simp, rfl, hgb⟩, fun c hc => hc, fun c hc => ?_, fun c hc => ?_⟩
      · simp only [List.mem_singleton] at hc; subst hc; exact hbb
      · simp only [List.mem_singleton] at hc; subst hc; exact hgb
  obtain ⟨F, hF, hn, hlo, hg⟩ := key
  obtain ⟨v, H1, e, rfl, w, rfl, hw⟩ := hr (((cxL P h fk n base lk).care s kk).locksFor g M G) F hF
  refine pV ?_ hd (k w F ⟨hO.pre, hO.len, fun r hr => ?_, pairwise_set hO.apart hj hn⟩)
  · rw [opV_call]
    simp only [h1, h2, Option.bind_some, fnOf]
    show (lendArgs ((cxL P h fk n base lk).care s kk) (h.modes g) H1 (vs ++ caps)).bind _ = _
    rw [h3]
    exact e
  · obtain ⟨i, hi, e⟩ := List.mem_iff_getElem.1 hr
    rw [List.length_set] at hi
    rw [List.getElem_set] at e
    split at e
    · subst e
      refine ⟨fun b hb => ⟨(List.getElem?_eq_some_iff.1 (hg b hb)).1, fun h => absurd (hlo b hb) (by omega)⟩, fun G' hG' => ?_⟩
      rcases hw with hw | ⟨b, m, lv, hb, e1, e2⟩
      · exact .inl hw
      · rw [hg b hb] at e2
        simp only [Option.some.injEq, Blk.bld.injEq] at e2
        obtain ⟨rfl, rfl, _⟩ := e2
        exact .inr ⟨b, _, hb, e1, by rw [hG' b hb]; exact hg b hb⟩
    · subst e
      exact hO.ok _ (List.getElem_mem hi)
end steps
end Go.Proofs.Ytblodpbcinkehaa.K
