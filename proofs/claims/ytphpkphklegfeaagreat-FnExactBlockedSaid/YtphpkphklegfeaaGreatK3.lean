/-
 An interpreter of the Go code, proved sound, and the rules by which typed functions are shown to be what it computes. Part 4 of 4. No conditions.
-/
import Derived.Test.YtphpkphklegfeaaGreatK2
set_option linter.unusedVariables false
set_option linter.unusedSimpArgs false
namespace Go.Proofs.YtphpkphklegfeaaGreat.K
theorem X6 {α : Type} {n : Nat} {ys z : List α} (h : D5 n [] ys = some z) : z = ys := by
 unfold D5 at h
 split at h
 ·rw [List.nil_append] at h; exact (Option.some.inj h).symm
 ·cases h
section
variable {α β : Type} [AM α] [An α] [AM β] [An β] {G G' H : A3} {F F2 : List Nat} {xs : List α} {x : α} {y : β} {v : V} {rs : List BH} {cs c1 c2 : List V}
theorem CG.Mp [D3 α] (x : α) (h : CG G y c2 F) : CG G (x, y) (AM.Bc 0 x ++ c2) F := by
 obtain ⟨F', h1, h2, h3⟩ := h
 exact ⟨F', h1, h2, _, _, [], F', rfl, rfl, D3.fl G x, h3⟩
theorem CG.T8 [D3 β] (y : β) (h : CG G x c1 F) : CG G (x, y) (c1 ++ AM.Bc 0 y) F := by
 obtain ⟨F', h1, h2, h3⟩ := h
 exact ⟨F', h1, h2, _, _, F', [], rfl, by simp, h3, D3.fl G y⟩
theorem TrE.Mp [D3 α] (x : α) (h : An.tr G y c2 F) : An.tr G (x, y) (AM.Bc 0 x ++ c2) F := ⟨_, _, [], F, rfl, rfl, D3.fl G x, h⟩
theorem TrE.T8 [D3 β] (y : β) (h : An.tr G x c1 F) : An.tr G (x, y) (c1 ++ AM.Bc 0 y) F := ⟨_, _, F, [], rfl, by simp, h, D3.fl G y⟩
theorem A6.lN [D3 β] {ys : List β} {b sz m : Nat} (hO : A6 H G (.Ad b (.cells sz ((A9 0) ys)) :: rs)) (hl : ys.length = m) (hsz : sz = AM.sz β := by rfl) : A6 H G (AY [] [b] ys [.sl b 0 m] :: rs) := by
 subst hsz hl
 obtain ⟨hgb, hbb⟩ := hO.get (k := 0) rfl
 have hlt := (List.getElem?_eq_some_iff.1 hgb).1
 refine ⟨hO.pre, hO.len, fun r hr => ?_, ?_⟩
 ·rcases List.mem_cons.1 hr with rfl | hr
  ·refine HR ⟨[b], by simp, fun _ h => h, .inr ⟨b, _, [], rfl, hgb, L0 ys, rfl⟩⟩ fun c hc => ?_
   simp only [List.mem_singleton] at hc
   subst hc
   exact ⟨hlt, fun h => by omega⟩
  ·exact hO.ok r (List.mem_cons_of_mem _ hr)
 ·have := List.pairwise_cons.1 hO.apart
  exact List.pairwise_cons.2 ⟨fun r hr c hc => this.1 r hr c (by simpa [BH.CF] using hc), this.2⟩
variable {m : Nat}
def Jy (m : Nat) (G : A3) (xs : List α) (v : V) (F : List Nat) (k : Nat) : Prop := ∃ F', F'.Nodup ∧ (∀ b ∈ F', b ∈ F) ∧ ((xs = [] ∧ v = .tl 0 [] ∧ F' = []) ∨
 ∃ b c1 F2, v = .sl b 0 xs.length ∧ G[b]? = some (.cells (AM.sz α) (c1 ++ A9 m (xs.drop k))) ∧ MY An.tr G (xs.take k) c1 F2 ∧ F' = b :: F2)
abbrev VB (m : Nat) (F : List Nat) (xs : List α) (v : V) (k : Nat) : BH := .tree [] F fun G => Jy m G xs v F k
theorem Jy.mono {k : Nat} (h : Jy m G xs v F k) (hg : ∀ b ∈ F, G'[b]? = G[b]?) : Jy m G' xs v F k := by
 obtain ⟨F', h1, h2, h3⟩ := h
 refine ⟨F', h1, h2, ?_⟩
 rcases h3 with h3 | ⟨b, c1, F2, e1, e2, e3, rfl⟩
 ·exact .inl h3
 ·exact .inr ⟨b, c1, F2, e1, by rw [hg b (h2 b (by simp))]; exact e2, FD e3 fun c hc => hg c (h2 c (by simp [hc])), rfl⟩
theorem aX {k : Nat} (h : Jy m G xs v F k) : CZ v = some xs.length := by
 obtain ⟨F', _, _, ⟨rfl, rfl, _⟩ | ⟨b, c1, F2, rfl, _⟩⟩ := h <;> rfl
theorem WZ {j k : Nat} (hO : A6 H G rs) (hj : rs[j]? = some (VB m F xs v k)) : v.cellsOf = [v] ∧ v.Bh = true := by
 obtain ⟨F', _, _, ⟨rfl, rfl, _⟩ | ⟨b, c1, F2, rfl, _⟩⟩ := (hO.tree hj).1 <;> exact ⟨rfl, rfl⟩
theorem PF {k : Nat} {i : Int} (h : Jy m G xs v F k) (hx : AL xs i = some x) : ∃ b c1 F2, v = .sl b 0 xs.length ∧ G[b]? = some (.cells (AM.sz α) (c1 ++ A9 m (xs.drop k))) ∧ MY An.tr G (xs.take k) c1 F2 ∧ (b :: F2).Nodup ∧ ∀ c ∈ b :: F2, c ∈ F := by
 obtain ⟨F', h1, h2, ⟨rfl, _, _⟩ | ⟨b, c1, F2, e1, e2, e3, rfl⟩⟩ := h
 ·have := E7 hx; simp at this; omega
 ·exact ⟨b, c1, F2, e1, e2, e3, h1, h2⟩
theorem YL {k : Nat} (h : Jy m G xs v F k) (hk : xs.length ≤ k) : CG G xs [v] F := by
 obtain ⟨F', h1, h2, ⟨rfl, rfl, rfl⟩ | ⟨b, c1, F2, rfl, e2, e3, rfl⟩⟩ := h
 ·exact ⟨[], .nil, (fun _ h => by cases h), .inl ⟨rfl, rfl, rfl⟩⟩
 ·rw [List.take_of_length_le hk] at e3
  rw [List.drop_of_length_le hk, Si, List.append_nil] at e2
  exact ⟨_, h1, h2, .inr ⟨b, c1, F2, rfl, e2, e3, rfl⟩⟩
theorem A6.aW {j k : Nat} (hO : A6 H G rs) (hj : rs[j]? = some (VB m F xs v k)) (hk : xs.length ≤ k) : A6 H G (rs.set j (AY [] F xs [v])) := by
 have h := hO.tree hj
 refine ⟨hO.pre, hO.len, fun r hr => ?_, IV hO.apart hj fun y hy => hy⟩
 obtain ⟨i, hi, e⟩ := List.mem_iff_getElem.1 hr
 rw [List.length_set] at hi
 rw [List.getElem_set] at e
 split at e
 ·subst e
  exact HR (YL h.1 hk) h.2
 ·subst e
  exact hO.ok _ (List.getElem_mem hi)
theorem A6.kB {j k k' : Nat} (hO : A6 H G rs) (hj : rs[j]? = some (VB m F xs v k)) (e : k' = k) : A6 H G (rs.set j (VB m F xs v k')) := by
 subst e
 obtain ⟨h1, h2⟩ := List.getElem?_eq_some_iff.1 hj
 have : rs.set j (VB m F xs v k') = rs := by rw [← h2]; exact List.set_getElem_self h1
 rw [this]; exact hO
end
theorem fM {i : Int} {n : Nat} (h : decide (i < (n : Int)) = false) : n ≤ i.toNat := by
 have := of_decide_eq_false h
 omega
theorem Z1 {α : Type} {by_ : Nat} {xs zs : List α} {i : Int} {x : α} (hz : D5 by_ [] xs = some zs) (hc : AL xs i = some x) : (BV (i + 1)).toNat = i.toNat + 1 := by
 have h1 := E7 hc
 unfold D5 at hz
 split at hz
 case isFalse => cases hz
 rename_i h
 have h2 : xs.length ≤ 70368744177664 := by
  rcases h with h | h
  ·omega
  ·have := Nat.le_mul_of_pos_right (0 + xs.length) (Nat.succ_pos by_)
   have h9 : (0 + xs.length) * (by_ + 1) ≤ 70368744177664 := h
   have h8 : (0 + xs.length) ≤ (0 + xs.length) * (by_ + 1) := this
   omega
 rw [Kc ⟨by omega, by omega⟩]
 omega
section steps
variable {m : Nat}
variable {P : Program} {h : Bg} {fk n base : Nat} {lk : Lk} {c : Cx} {ops : Array Oper} {s kk : Bool} {d : Nat} {ty : TypeId} {pos : String} {aft : Array Edge} {l : List (Bool × Bool × Oper)} {Q : St → Prop} {T : Nat → V} {G G' H H0 : A3} {rs : List BH} {op : Op} {S F F2 : List Nat}
variable {α β : Type} [AM α] [An α] [AM β] [An β]
theorem kJ {xs : List α} {x : Operand} {t : TypeId} {v : V} {i : Nat} (hO : A6 H G rs) (j : Nat) (ht : HY P t = some false) (k : BO (Aw P h fk n base lk) ops l ⟨Cb T d (.int .i64 xs.length), G⟩ Q) (h1 : ev T x = some v := by rfl) (hj : rs[j]? = some (VB m F xs v i) := by rfl) (hd : Nat.blt d n = true := by rfl) :
  BO (Aw P h fk n base lk) ops ((s, kk, ⟨some d, .call ⟨.builtin .len, #[x], #[t]⟩, ty, pos, aft, none⟩) :: l) ⟨T, G⟩ Q := by
 refine Ah (b := false) (a := v) ht k h1 ?_ hd
 have := aX (hO.tree hj).1
 cases v <;> first | exact this | simp [CZ] at this
theorem nY {xs : List α} {q : Nat} {i : Int} {x : α} {t e : TypeId} {y z : Operand} {kd : IntKind} {v : V} (hO : A6 H G rs) (j : Nat) (hc : AL xs i = some x) (he : Ax P t = some e) (hz : B3 P e = some (AM.sz α)) (k : ∀ b, v = .sl b 0 xs.length → BO (Aw P h fk n base lk) ops l ⟨Cb T d (.ptr b (i.toNat * AM.sz α)), G⟩ Q)
  (h1 : ev T y = some v := by rfl) (h2 : ev T z = some (.int kd i) := by rfl) (hj : rs[j]? = some (VB m F xs v q) := by rfl) (hd : Nat.blt d n = true := by rfl) :
  BO (Aw P h fk n base lk) ops ((s, kk, ⟨some d, .indexAddr t y z, ty, pos, aft, none⟩) :: l) ⟨T, G⟩ Q := by
 obtain ⟨b, c1, F2, rfl, _⟩ := PF (hO.tree hj).1 hc
 refine pV ?_ hd (k b rfl)
 rw [D1]
 show (Ax P t).bind _ = _
 rw [he, Option.bind_some]
 show (B3 P e).bind _ = _
 simp only [hz, h1, h2, Option.bind_some, asInt, Pt, CZ]
 rw [if_pos (E7 hc)]
 simp
theorem YK {xs : List α} {i : Int} {x : α} {c1 : List V} {F2 : List Nat} (hc : AL xs i = some x) (ht : MY An.tr G (xs.take i.toNat) c1 F2) : c1.length = i.toNat * AM.sz α ∧ A9 m (xs.drop i.toNat) = AM.Bc m x ++ A9 m (xs.drop (i.toNat + 1)) := by
 have hi := E7 hc
 have hg := Hp hc
 obtain ⟨h1, h2⟩ := List.getElem?_eq_some_iff.1 hg
 refine ⟨?_, ?_⟩
 ·rw [NX ht, List.length_take, Nat.min_eq_left (by omega)]
 ·rw [List.drop_eq_getElem_cons h1, h2, CT]
theorem oD {xs : List α} {i : Int} {x : α} {t : TypeId} {y : Operand} {v w : V} {off b : Nat} (hO : A6 H G rs) (j : Nat) (hv : v = .sl b 0 xs.length) (hc : AL xs i = some x) (ha : Cp P t = some false) (k : BO (Aw P h fk n base lk) ops l ⟨Cb T d w, G⟩ Q)
  (hw : (AM.Bc m x)[off]? = some w := by rfl) (h1 : ev T y = some (.ptr b (i.toNat * AM.sz α + off)) := by rfl) (hj : rs[j]? = some (VB m F xs v i.toNat) := by rfl) (hd : Nat.blt d n = true := by rfl) :
  BO (Aw P h fk n base lk) ops ((s, kk, ⟨some d, .load t y, ty, pos, aft, none⟩) :: l) ⟨T, G⟩ Q := by
 obtain ⟨b', c1, F2, rfl, hg, ht, _⟩ := PF (hO.tree hj).1 hc
 cases hv
 obtain ⟨e1, e2⟩ := YK (m := m) hc ht
 refine cW w hg ?_ k h1 hd
 have hlt := (List.getElem?_eq_some_iff.1 hw).1
 unfold BA
 rw [ha]
 show (c1 ++ A9 m (xs.drop i.toNat))[i.toNat * AM.sz α + off]? = some w
 rw [e2, ← e1, List.getElem?_append_right (Nat.le_add_right _ _), Nat.add_sub_cancel_left, List.getElem?_append_left hlt, hw]
theorem oG {xs : List α} {i : Int} {x : α} {ys : List β} {t : TypeId} {y z : Operand} {u v : V} {off b : Nat} {cx : List V} (hO : A6 H G (AY [] F2 ys [u] :: rs)) (j : Nat) (hv : v = .sl b 0 xs.length) (hc : AL xs i = some x) (hz : B3 P t = some 1) (hb : base = H.length)
  (hx : ∀ G F, An.tr G ys [u] F → An.tr G x cx F) (hcx : Bj (AM.Bc m x) off [u] = cx) (k : ∀ G', A6 H G' (rs.set j (VB m (F ++ F2) xs v (i.toNat + 1))) → BO (Aw P h fk n base lk) ops l ⟨T, G'⟩ Q)
  (h1 : ev T y = some (.ptr b (i.toNat * AM.sz α + off)) := by rfl) (h2 : ev T z = some u := by rfl) (ho : Nat.blt off (AM.sz α) = true := by rfl) (hj : rs[j]? = some (VB m F xs v i.toNat) := by rfl) :
  BO (Aw P h fk n base lk) ops ((s, kk, ⟨none, .store t y z, ty, pos, aft, none⟩) :: l) ⟨T, G⟩ Q := by
 have hj' : (AY [] F2 ys [u] :: rs)[j + 1]? = some (VB m F xs v i.toNat) := hj
 obtain ⟨hm, hbd⟩ := hO.tree hj'
 obtain ⟨ht2, hbd2⟩ := hO.tree (j := 0) (F := F2) (S := []) rfl
 obtain ⟨hu1, hu2⟩ := B7 hO (j := 0) rfl
 have hap : ∀ c ∈ F2, c ∉ F := fun c hc hc' => (List.pairwise_cons.1 hO.apart).1 _ (List.mem_of_getElem? hj) c hc hc'
 obtain ⟨b', c1, E, rfl, hg, ht, hn, hE⟩ := PF hm hc
 cases hv
 obtain ⟨e1, e2⟩ := YK (m := m) hc ht
 have ho := Nat.le_of_ble_eq_true ho
 have hlx : (AM.Bc m x).length = AM.sz α := AM.len x
 have hlt := (List.getElem?_eq_some_iff.1 hg).1
 have hbF := hE b (by simp)
 have hs : ∀ c, c ∉ F → (G.set b (.cells (AM.sz α) (Bj (c1 ++ A9 m (xs.drop i.toNat)) (i.toNat * AM.sz α + off) [u])))[c]? = G[c]? := fun c hc => by
  rw [Ae, if_neg]
  rintro ⟨rfl, _⟩; exact hc hbF
 have hsp : Bj (c1 ++ A9 m (xs.drop i.toNat)) (i.toNat * AM.sz α + off) [u] = c1 ++ cx ++ A9 m (xs.drop (i.toNat + 1)) := by
  rw [e2, ← e1, ← hcx]
  unfold Bj
  rw [List.take_append, List.take_of_length_le (Nat.le_add_right _ _), Nat.add_sub_cancel_left, List.take_append_of_le_length (by omega), List.length_singleton, Nat.add_assoc, List.drop_append, List.drop_of_length_le (by omega), Nat.add_sub_cancel_left, List.drop_append_of_le_length (by omega)]
  simp
 obtain ⟨E2, n2, s2, t2⟩ := ht2
 have hbb : ¬ b < base := fun h => by rw [hb] at h; cases (hbd b hbF).2 h
 refine ZJ (Fp (cells := c1 ++ A9 m (xs.drop i.toNat)) hz ?_ (if_neg hbb) hg ?_ (by rw [hu1]; rfl) (by rw [hu1]; simp [hu2]) h1 h2) (k _ ?_)
 ·unfold Cx.BR
  simp only [Bool.or_eq_true, decide_eq_true_eq]
  exact .inl (Nat.not_lt.1 hbb)
 ·rw [hu1, e2]; simp only [List.length_append, List.length_singleton]; omega
 ·rw [hu1]
  have h9 := hO.join (G' := G.set b (.cells (AM.sz α) (Bj (c1 ++ A9 m (xs.drop i.toNat)) (i.toNat * AM.sz α + off) [u]))) hj (List.length_set ..) hs (p' := fun G => Jy m G xs (.sl b 0 xs.length) (F ++ F2) (i.toNat + 1)) fun G2 hG2 => ?_
  ·rwa [TT hO hj' hs] at h9
  ·refine Jy.mono (G := G.set b (.cells (AM.sz α) (Bj (c1 ++ A9 m (xs.drop i.toNat)) (i.toNat * AM.sz α + off) [u]))) ⟨b :: (E ++ E2), ?_, fun c hc => ?_, .inr ⟨b, c1 ++ cx, E ++ E2, rfl, by rw [Ae, if_pos ⟨rfl, hlt⟩, hsp], ?_, rfl⟩⟩ hG2
   ·rw [List.nodup_cons] at hn
    rw [List.nodup_cons, List.nodup_append]
    refine ⟨fun h => ?_, hn.2, n2, fun p hp q hq e => ?_⟩
    ·rcases List.mem_append.1 h with h | h
     ·exact hn.1 h
     ·exact hap b (s2 b h) hbF
    ·subst e; exact hap p (s2 p hq) (hE p (by simp [hp]))
   ·rcases List.mem_cons.1 hc with rfl | hc
    ·exact List.mem_append_left _ hbF
    ·rcases List.mem_append.1 hc with hc | hc
     ·exact List.mem_append_left _ (hE c (by simp [hc]))
     ·exact List.mem_append_right _ (s2 c hc)
   ·have hg' := Hp hc
    obtain ⟨g1, g2⟩ := List.getElem?_eq_some_iff.1 hg'
    rw [List.take_succ_eq_append_getElem g1, g2]
    refine Pc (FD ht fun c hc => ?_) (hx _ _ (An.frame t2 fun c hc => ?_))
    ·rw [Ae, if_neg]
     rintro ⟨rfl, _⟩
     exact (List.nodup_cons.1 hn).1 hc
    ·rw [Ae, if_neg]
     rintro ⟨rfl, _⟩
     exact hap _ (s2 _ hc) hbF
theorem bH {f : Operand} {args : Array Operand} {ats : Array TypeId} {g : FuncId} {fn : Func} {t e : TypeId} {by_ lv : Nat} {z : List V} {xs zs : List α} (hO : A6 H G rs) (happ : D5 by_ [] xs = some zs)
    (hfn : P.funcs[g]? = some fn) (hcl : fn.body.bind FP = some t) (he : Ax P t = some e) (hz : B3 P e = some (AM.sz α)) (hby : C3 P e = some by_) (hz0 : BI P e = some z)
    (k : ∀ v F G', A6 H G' (VB m F xs v 0 :: rs) → BO (Aw P h fk n base lk) ops l ⟨Cb T d v, G'⟩ Q)
    (h1 : ev T f = some (.fn g []) := by rfl) (h2 : KC T args.toList = some [.lit lv xs.length (A9 m xs)] := by rfl)
    (h3 : Af ((Aw P h fk n base lk).BF s kk) (h.Cs g) G [.lit lv xs.length (A9 m xs)] = some ([.lit lv xs.length (A9 m xs)], [], G) := by rfl) (hzl : z.length = AM.sz α := by rfl) (hnt : Nat.blt 7 fn.ntmps = true := by rfl) (hres : fn.results = #[.tmp 2] := by rfl) (hname : (fn.name == "runtime.NumGoroutine") = false := by rfl) (hlm : m ≤ lk.length := by first | exact Nat.zero_le _ | assumption) (hg : h.grow g = false := by rfl) (ht : h.N4 g = true := by rfl) (hd : Nat.blt d n = true := by rfl) :
    BO (Aw P h fk n base lk) ops ((s, kk, ⟨some d, .call ⟨.value f, args, ats⟩, ty, pos, aft, none⟩) :: l) ⟨T, G⟩ Q := by
  obtain ⟨body, hb, hcl⟩ := Option.bind_eq_some_iff.1 hcl
  have hnt := Nat.le_of_ble_eq_true hnt
  unfold D5 at happ
  split at happ
  case isFalse => cases happ
  rename_i hroom
  have hsz : (0 + xs.length) * (by_ + 1) ≤ 70368744177664 := by
    rcases hroom with h0 | h0
    · rw [h0]; simp
    · exact h0
  have call : ∀ v1 H1, Al P h g [.lit lv xs.length (A9 m xs)] G (lk ++ [((Aw P h fk n base lk).BF s kk).Bw g [] G]) = some (v1, H1) → H6 ((Aw P h fk n base lk).BF s kk) (.call ⟨.value f, args, ats⟩) ⟨T, G⟩ = some (v1, H1) := fun v1 H1 hr => by
    rw [FQ]
    simp only [h1, h2, Option.bind_some, Oe]
    show (Af ((Aw P h fk n base lk).BF s kk) (h.Cs g) G ([.lit lv xs.length (A9 m xs)] ++ [])).bind _ = _
    rw [List.append_nil, h3]
    exact hr
  generalize hlk : lk ++ [((Aw P h fk n base lk).BF s kk).Bw g [] G] = lk2 at call
  have hlk2 : 0 < lk2.length := by rw [← hlk]; simp
  have hex := KA (n := 0) { P := P, hints := h, fn := g, ntmps := fn.ntmps, base := G.length, lk := lk2, Γ := DQ P h 0 } hcl (by show 7 < fn.ntmps; omega) he hz hby hz0 hzl xs hsz (T := Il [.lit lv xs.length (A9 m xs)]) (G := G) (l := lv) rfl
  have key : ∀ r, ((if xs.length = 0 then some (([.tl 0 []] : List V), G) else some ([.snap G.length xs.length (A9 m xs)], G ++ [.Br lk2.length xs.length (AM.sz α)])).bind fun r => D9 h g G.length lk2.length (Dd r.1) r.2) = some r → Al P h g [.lit lv xs.length (A9 m xs)] G lk2 = some r := by
    intro r hr
    refine NV (n := 1) ?_
    unfold DQ
    simp only [hfn, hb]
    rw [if_pos ⟨by show 1 ≤ fn.ntmps; omega, hname⟩, hres]
    rw [hex]
    exact hr
  by_cases h0 : xs.length = 0
  · have hx : xs = [] := List.eq_nil_of_length_eq_zero h0
    subst hx
    refine pV (call (.tl 0 []) G (key _ ?_)) hd (k _ [] _ ⟨hO.pre, hO.len, fun r hr => ?_, List.pairwise_cons.2 ⟨(fun r hr x hx => by cases hx), hO.apart⟩⟩)
    · rw [if_pos (show ([] : List α).length = 0 from rfl)]
      simp only [Option.bind_some, Dd, D9, hg, ht, Bool.false_eq_true, if_false]
      show (B2 true G.length lk2.length (7 + 1) (G, []) (.tl 0 [])).map _ = _
      rw [B2, if_pos rfl]
      simp
    · rcases List.mem_cons.1 hr with rfl | hr
      · exact ⟨fun b hb => (by cases hb), fun _ _ => ⟨[], .nil, fun _ h => h, .inl ⟨rfl, rfl, rfl⟩⟩⟩
      · exact hO.ok r hr
  · refine pV (call (.sl G.length 0 xs.length) (G ++ [.cells (AM.sz α) (A9 m xs)]) (key _ ?_)) hd (k _ [G.length] _ ⟨fun b hb => by rw [List.getElem?_append_left (Nat.lt_of_lt_of_le hb hO.len)]; exact hO.pre b hb, by rw [List.length_append]; have := hO.len; omega, fun r hr => ?_, List.pairwise_cons.2 ⟨fun r hr x hx hx' => ?_, hO.apart⟩⟩)
    · rw [if_neg h0]
      simp only [Option.bind_some, Dd, D9, hg, ht, Bool.false_eq_true, if_false]
      show (B2 true G.length lk2.length (7 + 1) (G ++ [.Br lk2.length xs.length (AM.sz α)], []) (.snap G.length xs.length (A9 m xs))).map _ = _
      have hcl := fun X => Ev (th := true) (lo := G.length) (d := lk2.length) (k := 6) (X := X) (A9 m xs) (HF (by rw [← hlk, List.length_append]; simp only [Bool.or_eq_true, decide_eq_true_eq]; exact .inr (Nat.lt_succ_of_le hlm)) xs) (Db xs)
      rw [B2]
      simp only [FR]
      rw [if_neg (by omega), hcl]
      simp only [Option.bind_some, if_true]
      rw [if_pos (Dc xs)]
      simp only [Option.map_some, List.length_nil, Nat.add_zero, List.nil_append]
      rw [List.set_append_right _ _ (Nat.le_refl _), List.take_left' rfl]
    · rcases List.mem_cons.1 hr with rfl | hr
      · refine ⟨fun b hb => ?_, fun G' hG' => Jy.mono (G := G ++ [.cells (AM.sz α) (A9 m xs)]) ⟨[G.length], by simp, fun _ h => h, .inr ⟨G.length, [], [], rfl, by rw [FR, List.drop_zero, List.nil_append], ⟨rfl, rfl⟩, rfl⟩⟩ hG'⟩
        simp only [List.mem_singleton] at hb
        subst hb
        have := hO.len
        exact ⟨by simp, fun h => by omega⟩
      · have h1 := hO.ok r hr
        exact BH.E9 h1 fun x hx => by rw [List.getElem?_append_left (BH.DX h1 hx)]
    · simp only [BH.CF, List.mem_singleton] at hx
      subst hx
      have := BH.DX (hO.ok r hr) hx'
      omega
end steps
def H9 (i : Nat) : List Nat → Bool
 | [] => false
 | d :: l => bif Nat.beq i d then true else H9 i l
def Ag (ds : List Nat) (T T1 : Nat → V) : Prop := ∀ i, H9 i ds = false → T1 i = T i
def kp (ds : List Nat) (T J : Nat → V) : Nat → V := fun i => bif H9 i ds then J i else T i
section
variable {ds ds2 : List Nat} {T T1 J : Nat → V} {d : Nat} {v : V}
theorem Ag.same : Ag ds T T := fun _ _ => rfl
theorem Ag.up (h : Ag ds T T1) (hd : H9 d ds = true) : Ag ds T (Cb T1 d v) := fun i hi => by
 unfold Cb
 split
 ·rename_i e; subst e; rw [hd] at hi; cases hi
 ·exact h i hi
theorem Ag.kp (h : Ag ds T T1) (hs : (ds2.all fun i => H9 i ds) = true) : Ag ds T (kp ds2 T1 J) := fun i hi => by
 have : H9 i ds2 = false := by
  cases hm : H9 i ds2 with
  | false => rfl
  | true =>
   have key : ∀ l : List Nat, H9 i l = true → (l.all fun i => H9 i ds) = true → H9 i ds = true := by
    intro l
    induction l with
    | nil => intro h; cases h
    | cons x l ih =>
     intro h1 h2
     rw [List.all_cons, Bool.and_eq_true] at h2
     unfold H9 at h1
     cases hb : Nat.beq i x with
     | true => rw [Nat.eq_of_beq_eq_true hb]; exact h2.1
     | false => rw [hb] at h1; exact ih h1 h2.2
   rw [key ds2 hm hs] at hi
   cases hi
 show (bif H9 i ds2 then J i else T1 i) = T i
 rw [this]
 exact h i hi
theorem k8 (h : Ag ds T T1) : T1 = K.kp ds T T1 := funext fun i => by
 show T1 i = bif H9 i ds then T1 i else T i
 cases hm : H9 i ds with
 | false => exact h i hm
 | true => rfl
end
section
variable {P : Program} {h : Bg} {fk n base : Nat} {lk : Lk} {c : Cx} {ops : Array Oper} {T T1 : Nat → V} {G : A3} {Q : St → Prop} {d : Nat} {v : V} {ds : List Nat}
theorem AU {l1 l2 : List (Bool × Bool × Oper)} (ds : List Nat) (d : Nat) (v : V) (h1 : BO c ops l1 ⟨T, G⟩ (fun S' => ∃ T1, Ag ds T T1 ∧ T1 d = v ∧ S' = ⟨T1, G⟩)) (h2 : ∀ J, BO c ops l2 ⟨Cb (kp ds T J) d v, G⟩ Q) : BO c ops (l1 ++ l2) ⟨T, G⟩ Q := by
 refine cB _ h1 fun S' hS => ?_
 obtain ⟨T1, a, hd, rfl⟩ := hS
 have := h2 T1
 rwa [← k8 a, TX hd] at this
theorem ek {T1 : Nat → V} (hd : T1 d = v := by rfl) (ha : Ag ds T T1 := by repeat (first | refine Ag.up ?_ (by rfl) | refine Ag.kp ?_ (by rfl) | exact Ag.same)) : ∃ T2, Ag ds T T2 ∧ T2 d = v ∧ (⟨T1, G⟩ : St) = ⟨T2, G⟩ := ⟨T1, ha, hd, rfl⟩
end
section
variable {P : Program} {h : Bg} {fk n base : Nat} {lk : Lk} {c : Cx} {ops : Array Oper} {s kk : Bool} {d : Nat} {ty : TypeId} {pos : String} {aft : Array Edge} {l : List (Bool × Bool × Oper)} {Q : St → Prop} {T : Nat → V} {G G' H : A3} {rs : List BH} {op : Op}
variable {α : Type} [AM α]
theorem Mf (hkp : h.GP fk = true) : ∀ ps : List (Nat × V), CM ((Aw P h fk n base lk).BF s kk) G ps = some (ps, G)
 | [] => rfl
 | (i, v) :: r => by
  have e : Fy ((Aw P h fk n base lk).BF s kk) G v = some (v, G) := by
   unfold Fy
   rw [show ((Aw P h fk n base lk).BF s kk).hints.GP ((Aw P h fk n base lk).BF s kk).fn = true from hkp]
   rfl
  simp only [CM, e, Option.bind_some, Mf hkp r, Option.map_some]
theorem fP {t e : TypeId} {m : Nat} {parts : Array (Nat × Operand)} {ps : List (Nat × V)} {z : List V} (lm : Nat) (ys : List α) (he : Ax P t = some e) (hz : B3 P e = some (AM.sz α)) (hz0 : BI P e = some z) (k : BO (Aw P h fk n base lk) ops l ⟨Cb T d (.tl ys.length (A9 lm ys)), G⟩ Q)
  (hzl : z.length = AM.sz α := by rfl) (hm : Nat.ble (m * AM.sz α) 1048576 = true := by rfl) (hlen : m = ys.length := by rfl) (hkp : h.GP fk = true := by rfl) (h1 : Qz T parts.toList = some ps := by rfl) (h2 : E5 (fun i => some (i * AM.sz α, AM.sz α)) (List.replicate m z).flatten ps = some (A9 lm ys) := by rfl) (hd : Nat.blt d n = true := by rfl) :
  BO (Aw P h fk n base lk) ops ((s, kk, ⟨some d, .buildSlice t m parts, ty, pos, aft, none⟩) :: l) ⟨T, G⟩ Q := by
 refine pV ?_ hd k
 unfold H6 CU
 simp only []
 rw [h1]
 simp only [Option.bind_some, Mf hkp]
 show (Ax P t).bind _ = _
 rw [he]
 show (B3 P e).bind _ = _
 rw [hz]
 show (BI P e).bind _ = _
 rw [hz0]
 simp only [Option.bind_some]
 rw [if_pos ⟨hzl, Nat.pos_iff_ne_zero.1 AM.pos, Nat.le_of_ble_eq_true hm⟩, h2, hlen]
 rfl
theorem fU {lm : Nat} {xs : List α} {i : Int} {x : α} {t e : TypeId} {y z : Operand} {kd : IntKind} (hc : AL xs i = some x) (he : Ax P t = some e) (hz : B3 P e = some (AM.sz α)) (k : BO (Aw P h fk n base lk) ops l ⟨Cb T d (.lp 0 (A9 lm xs) (i.toNat * AM.sz α)), G⟩ Q)
  (h1 : ev T y = some (.tl xs.length (A9 lm xs)) := by rfl) (h2 : ev T z = some (.int kd i) := by rfl) (hd : Nat.blt d n = true := by rfl) :
  BO (Aw P h fk n base lk) ops ((s, kk, ⟨some d, .indexAddr t y z, ty, pos, aft, none⟩) :: l) ⟨T, G⟩ Q := by
 refine pV ?_ hd k
 rw [D1]
 show (Ax P t).bind _ = _
 rw [he, Option.bind_some]
 show (B3 P e).bind _ = _
 simp only [hz, h1, h2, Option.bind_some, asInt, Pt, CZ]
 rw [if_pos (E7 hc)]
 rfl
end
def Te {α β γ : Type} [AM α] [An α] [AM β] [An β] [AM γ] [An γ] (H : A3) (r : α × β × γ) (v : V) (H1 : A3) : Prop := ∃ cs u1 u2 L F1 F2 F3, v = .FH [.agg cs, u1, u2] ∧ H1 = H ++ L ∧ (F1 ++ (F2 ++ F3)).Nodup ∧ (∀ b ∈ F1 ++ (F2 ++ F3), H.length ≤ b) ∧ An.tr H1 r.1 cs F1 ∧ An.tr H1 r.2.1 [u1] F2 ∧ An.tr H1 r.2.2 [u2] F3
section
variable {P : Program} {h : Bg} {G H : A3} {rs rs1 rs2 rs3 : List BH} {T : Nat → V} {dd : Nat}
variable {α β γ : Type} [AM α] [An α] [AM β] [An β] [AM γ] [An γ]
theorem fC {x : α} {y : β} {z : γ} {cs : List V} {u w : V} {n m q k : Nat} {lr : List ResultVar} {vs : List V} {xx : X} (hO : A6 H G rs) (hx0 : Ld n H dd rs cs x rs1) (hy : Ld m H dd rs1 [u] y rs2) (hz : Ld q H dd rs2 [w] z rs3) (h1 : BB P G T lr = some vs) (h2 : vs = [.agg cs, u, w] := by rfl)
  (hn : Nat.ble (n + 2) BU = true := by rfl) (hm : Nat.ble (m + 1) BU = true := by rfl) (hq : Nat.ble (q + 1) BU = true := by rfl) (hg : h.grow k = false := by rfl) (ht : h.N4 k = true := by rfl) (hx : xx = .normal ∨ xx = .ret := by first | exact Or.inl rfl | exact Or.inr rfl) :
  Vx P h k H.length dd lr (Te H (x, y, z)) xx ⟨T, G⟩ := by
 have hn := Nat.le_of_ble_eq_true hn
 have hm := Nat.le_of_ble_eq_true hm
 have hq := Nat.le_of_ble_eq_true hq
 obtain ⟨cs', X1, L, F', e, o, n1, b1, r1⟩ := hx0 (G, []) hO (BU - 2 - n)
 obtain ⟨c2, X2, L2, F2, e2, o2, n2, b2, r2⟩ := hy (X1, [] ++ L) o (BU - 1 - m)
 obtain ⟨c3, X3, L3, F3, e3, o3, n3, b3, r3⟩ := hz (X2, [] ++ L ++ L2) o2 (BU - 1 - q)
 rw [show BU - 2 - n + n = BU - 2 by omega] at e
 rw [show BU - 1 - m + m = BU - 1 by omega] at e2
 rw [show BU - 1 - q + q = BU - 1 by omega] at e3
 have one : ∀ {f : A3 × List Bp → V → Option (V × A3 × List Bp)} {X Y : A3 × List Bp} {v : V} {c : List V}, B2.resL f X [v] = some (c, Y) → ∃ v', c = [v'] := fun {f X Y v c} h => by
  simp only [B2.resL, Option.bind_eq_some_iff, Option.map_eq_some_iff, Prod.exists, Prod.mk.injEq, Option.some.injEq] at h
  obtain ⟨a, H2, L2, q1, w, H3, L3, ⟨rfl, rfl, rfl⟩, rfl, q4⟩ := h
  exact ⟨a, rfl⟩
 obtain ⟨u', rfl⟩ := one e2
 obtain ⟨w', rfl⟩ := one e3
 have e1 : B2.resL (B2 true H.length dd (BU - 1)) (G, []) [.agg cs] = some ([.agg cs'], X1, [] ++ L) := by
  have : B2 true H.length dd (BU - 1) (G, []) (.agg cs) = some (.agg cs', X1, [] ++ L) := by
   show (B2.resL (B2 true H.length dd (BU - 2)) (G, []) cs).map _ = _
   rw [e]; rfl
  simp only [B2.resL, this, Option.bind_some, Option.map_some]
 have e' : B2 true H.length dd BU (G, []) (.FH [.agg cs, u, w]) = some (.FH [.agg cs', u', w'], X3, [] ++ L ++ L2 ++ L3) := by
  show (B2.resL (B2 true H.length dd (BU - 1)) (G, []) ([.agg cs] ++ ([u] ++ [w]))).map _ = _
  rw [G8 e1 (G8 e2 e3)]; rfl
 simp only [List.length_nil, List.nil_append, Nat.add_zero, List.length_append] at b1 b2 b3 r1 r2 r3
 have ba : ∀ b ∈ F' ++ (F2 ++ F3), H.length ≤ b := fun b hb => by
  rcases List.mem_append.1 hb with hb | hb
  ·exact (b1 b hb).1
  ·rcases List.mem_append.1 hb with hb | hb
   ·have := b2 b hb; omega
   ·have := b3 b hb; omega
 refine ⟨hx, .FH [.agg cs', u', w'], H ++ (L ++ (L2 ++ L3)), ?_, cs', u', w', _, F', F2, F3, rfl, rfl, ?_, ba, ?_, ?_, ?_⟩
 ·subst h2
  simp only [h1, Option.bind_some, Dd, D9, hg, Bool.false_eq_true, if_false, ht, e', Option.map_some, o3.out, List.nil_append, List.append_assoc]
 ·rw [List.nodup_append]
  refine ⟨n1, List.nodup_append.2 ⟨n2, n3, fun p hp q hq e => ?_⟩, fun p hp q hq e => ?_⟩
  ·have := b2 p hp
   have := b3 q hq
   omega
  ·have := b1 p hp
   rcases List.mem_append.1 hq with hq | hq
   ·have := b2 q hq; omega
   ·have := b3 q hq; omega
 ·refine An.frame (r1 H rfl) fun b hb => ?_
  have := b1 b hb
  rw [← List.append_assoc H L, List.getElem?_append_left (by rw [List.length_append]; omega)]
 ·refine An.frame (r2 H rfl) fun b hb => ?_
  have := b2 b hb
  rw [← List.append_assoc L L2, ← List.append_assoc H (L ++ L2), List.getElem?_append_left (by simp only [List.length_append]; omega)]
 ·have := r3 H rfl
  rwa [List.append_assoc L L2 L3] at this
end
section calls
variable {P : Program} {h : Bg} {fk n base : Nat} {lk : Lk} {ops : Array Oper} {s kk : Bool} {d : Nat} {ty : TypeId} {pos : String} {aft : Array Edge} {l : List (Bool × Bool × Oper)} {Q : St → Prop} {T : Nat → V} {G G' H : A3} {rs : List BH}
variable {α β γ : Type} [AM α] [An α] [AM β] [An β] [AM γ] [An γ]
theorem kH {f : Operand} {args : Array Operand} {ats : Array TypeId} {g : FuncId} {caps vs vs' : List V} {M : List Nat} {r : α × β × γ} (hO : A6 H G rs) (hlo : Di lk H.length) (hb : base = H.length) (hr : ∀ L, Di (lk ++ [L]) G.length → ∃ v H1, Al P h g vs' G (lk ++ [L]) = some (v, H1) ∧ Te G r v H1)
  (k : ∀ cs u1 u2 F1 F2 F3 G', A6 H G' (AY [] F3 r.2.2 [u2] :: AY [] F2 r.2.1 [u1] :: AY [] F1 r.1 cs :: rs) → BO (Aw P h fk n base lk) ops l ⟨Cb T d (.FH [.agg cs, u1, u2]), G'⟩ Q) (h1 : ev T f = some (.fn g caps) := by rfl) (h2 : KC T args.toList = some vs := by rfl)
  (h3 : Af ((Aw P h fk n base lk).BF s kk) [] G (vs ++ caps) = some (vs', M, G) := by rfl) (hd : Nat.blt d n = true := by rfl) (hm : h.Cs g = [] := by rfl) :
  BO (Aw P h fk n base lk) ops ((s, kk, ⟨some d, .call ⟨.value f, args, ats⟩, ty, pos, aft, none⟩) :: l) ⟨T, G⟩ Q := by
 obtain ⟨v, H1, e, cs, u1, u2, L, F1, F2, F3, rfl, rfl, hn, hb', t1, t2, t3⟩ := hr (((Aw P h fk n base lk).BF s kk).Bw g M G) (hlo.push hO.len (P7 (HJ _ _ _ h3) (by show base ≤ _; rw [hb]; exact hO.len)))
 have hf := hO.fresh (x := (r.1, r.2.1, r.2.2)) (cs := cs ++ ([u1] ++ [u2])) hn hb' ⟨cs, [u1] ++ [u2], F1, F2 ++ F3, rfl, rfl, t1, [u1], [u2], F2, F3, rfl, rfl, t2, t3⟩
 obtain ⟨c1, c2, E1, E2, q1, q2, hf⟩ := hf.S9
 obtain ⟨rfl, rfl⟩ := List.append_inj q1 ((An.len t1).trans (An.len q2).symm)
 obtain ⟨c1, c2, E3, E4, q1, q2, hf⟩ := hf.S9
 obtain ⟨rfl, rfl⟩ := List.append_inj q1 ((An.len t2).trans (An.len q2).symm)
 refine pV ?_ hd (k _ u1 u2 _ _ _ _ hf)
 rw [FQ]
 simp only [h1, h2, Option.bind_some, Oe]
 show (Af ((Aw P h fk n base lk).BF s kk) (h.Cs g) G (vs ++ caps)).bind _ = _
 rw [hm, h3]
 exact e
end calls
end Go.Proofs.YtphpkphklegfeaaGreat.K
