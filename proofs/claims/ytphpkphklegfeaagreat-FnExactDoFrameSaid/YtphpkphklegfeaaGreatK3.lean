/-
 An interpreter of the Go code, proved sound, and the rules by which typed functions are shown to be what it computes. Part 4 of 4. No conditions.
-/
import Derived.Test.YtphpkphklegfeaaGreatK2
set_option linter.unusedVariables false
set_option linter.unusedSimpArgs false
namespace Go.Proofs.YtphpkphklegfeaaGreat.K
open List renaming nil_append → dr, getElem?_eq_some_iff → ak, mem_cons → bq, mem_singleton → bh, pairwise_cons → cg, take_of_length_le → fy, drop_of_length_le → fw, append_nil → dh, length_set → bp, getElem?_append_left → aw, length_singleton → cn, length_append → an, nodup_cons → dp, mem_append → aq, mem_append_left → cd, all_cons → gg
open Option.some renaming inj → av
open Go renaming Program → bm, Oper → ch, TypeId → ao, Operand → au
open Nat renaming blt → cm, le_add_right → ma, add_sub_cancel_left → ic, le_of_ble_eq_true → ca
open Option renaming bind_some → aa, map_some → aj
open Bool renaming or_eq_true → df, false_eq_true → bd, and_eq_true → ar
open List.cons renaming injEq → ep
theorem YQ {α : Type} {n : Nat} {ys z : List α} (h : DP n [] ys = some z) : z = ys := by
 unfold DP at h
 split at h
 ·rw [dr] at h; exact (av h).symm
 ·cases h
section
variable {α β : Type} [AL α] [Aw α] [AL β] [Aw β] {G G' H : A6} {F F2 : List Nat} {xs : List α} {x : α} {y : β} {v : V} {rs : List BK} {cs c1 c2 : List V}
theorem CR.Nm [D6 α] (x : α) (h : CR G y c2 F) : CR G (x, y) (AL.Ba 0 x ++ c2) F := by
 obtain ⟨F', h1, h2, h3⟩ := h
 exact ⟨F', h1, h2, _, _, [], F', rfl, rfl, D6.fl G x, h3⟩
theorem CR.U9 [D6 β] (y : β) (h : CR G x c1 F) : CR G (x, y) (c1 ++ AL.Ba 0 y) F := by
 obtain ⟨F', h1, h2, h3⟩ := h
 exact ⟨F', h1, h2, _, _, F', [], rfl, by simp, h3, D6.fl G y⟩
theorem TrE.Nm [D6 α] (x : α) (h : Aw.tr G y c2 F) : Aw.tr G (x, y) (AL.Ba 0 x ++ c2) F := ⟨_, _, [], F, rfl, rfl, D6.fl G x, h⟩
theorem TrE.U9 [D6 β] (y : β) (h : Aw.tr G x c1 F) : Aw.tr G (x, y) (c1 ++ AL.Ba 0 y) F := ⟨_, _, F, [], rfl, by simp, h, D6.fl G y⟩
theorem A4.pL [D6 β] {ys : List β} {b sz m : Nat} (hO : A4 H G (.AW b (.cells sz ((A8 0) ys)) :: rs)) (hl : ys.length = m) (hsz : sz = AL.sz β := by rfl) : A4 H G (AI [] [b] ys [.sl b 0 m] :: rs) := by
 subst hsz hl
 obtain ⟨hgb, hbb⟩ := hO.get (k := 0) rfl
 have hlt := (ak.1 hgb).1
 refine ⟨hO.pre, hO.len, fun r hr => ?_, ?_⟩
 ·rcases bq.1 hr with rfl | hr
  ·refine IB ⟨[b], by simp, fun _ h => h, .inr ⟨b, _, [], rfl, hgb, Lt ys, rfl⟩⟩ fun c hc => ?_
   simp only [bh] at hc
   subst hc
   exact ⟨hlt, fun h => by omega⟩
  ·exact hO.ok r (List.mem_cons_of_mem _ hr)
 ·have := cg.1 hO.apart
  exact cg.2 ⟨fun r hr c hc => this.1 r hr c (by simpa [BK.CO] using hc), this.2⟩
variable {m : Nat}
def Kd (m : Nat) (G : A6) (xs : List α) (v : V) (F : List Nat) (k : Nat) : Prop := ∃ F', F'.Nodup ∧ (∀ b ∈ F', b ∈ F) ∧ ((xs = [] ∧ v = .tl 0 [] ∧ F' = []) ∨
 ∃ b c1 F2, v = .sl b 0 xs.length ∧ G[b]? = some (.cells (AL.sz α) (c1 ++ A8 m (xs.drop k))) ∧ NQ Aw.tr G (xs.take k) c1 F2 ∧ F' = b :: F2)
abbrev WA (m : Nat) (F : List Nat) (xs : List α) (v : V) (k : Nat) : BK := .tree [] F fun G => Kd m G xs v F k
theorem Kd.mono {k : Nat} (h : Kd m G xs v F k) (hg : ∀ b ∈ F, G'[b]? = G[b]?) : Kd m G' xs v F k := by
 obtain ⟨F', h1, h2, h3⟩ := h
 refine ⟨F', h1, h2, ?_⟩
 rcases h3 with h3 | ⟨b, c1, F2, e1, e2, e3, rfl⟩
 ·exact .inl h3
 ·exact .inr ⟨b, c1, F2, e1, by rw [hg b (h2 b (by simp))]; exact e2, Fp e3 fun c hc => hg c (h2 c (by simp [hc])), rfl⟩
theorem eO {k : Nat} (h : Kd m G xs v F k) : Ct v = some xs.length := by
 obtain ⟨F', _, _, ⟨rfl, rfl, _⟩ | ⟨b, c1, F2, rfl, _⟩⟩ := h <;> rfl
theorem Xo {j k : Nat} (hO : A4 H G rs) (hj : rs[j]? = some (WA m F xs v k)) : v.cellsOf = [v] ∧ v.Bm = true := by
 obtain ⟨F', _, _, ⟨rfl, rfl, _⟩ | ⟨b, c1, F2, rfl, _⟩⟩ := (hO.tree hj).1 <;> exact ⟨rfl, rfl⟩
theorem QA {k : Nat} {i : Int} (h : Kd m G xs v F k) (hx : AH xs i = some x) : ∃ b c1 F2, v = .sl b 0 xs.length ∧ G[b]? = some (.cells (AL.sz α) (c1 ++ A8 m (xs.drop k))) ∧ NQ Aw.tr G (xs.take k) c1 F2 ∧ (b :: F2).Nodup ∧ ∀ c ∈ b :: F2, c ∈ F := by
 obtain ⟨F', h1, h2, ⟨rfl, _, _⟩ | ⟨b, c1, F2, e1, e2, e3, rfl⟩⟩ := h
 ·have := EZ hx; simp at this; omega
 ·exact ⟨b, c1, F2, e1, e2, e3, h1, h2⟩
theorem Zk {k : Nat} (h : Kd m G xs v F k) (hk : xs.length ≤ k) : CR G xs [v] F := by
 obtain ⟨F', h1, h2, ⟨rfl, rfl, rfl⟩ | ⟨b, c1, F2, rfl, e2, e3, rfl⟩⟩ := h
 ·exact ⟨[], .nil, (fun _ h => by cases h), .inl ⟨rfl, rfl, rfl⟩⟩
 ·rw [fy hk] at e3
  rw [fw hk, To, dh] at e2
  exact ⟨_, h1, h2, .inr ⟨b, c1, F2, rfl, e2, e3, rfl⟩⟩
theorem A4.eN {j k : Nat} (hO : A4 H G rs) (hj : rs[j]? = some (WA m F xs v k)) (hk : xs.length ≤ k) : A4 H G (rs.set j (AI [] F xs [v])) := by
 have h := hO.tree hj
 refine ⟨hO.pre, hO.len, fun r hr => ?_, JE hO.apart hj fun y hy => hy⟩
 obtain ⟨i, hi, e⟩ := List.mem_iff_getElem.1 hr
 rw [bp] at hi
 rw [List.getElem_set] at e
 split at e
 ·subst e
  exact IB (Zk h.1 hk) h.2
 ·subst e
  exact hO.ok _ (List.getElem_mem hi)
theorem A4.o0 {j k k' : Nat} (hO : A4 H G rs) (hj : rs[j]? = some (WA m F xs v k)) (e : k' = k) : A4 H G (rs.set j (WA m F xs v k')) := by
 subst e
 obtain ⟨h1, h2⟩ := ak.1 hj
 have : rs.set j (WA m F xs v k') = rs := by rw [← h2]; exact List.set_getElem_self h1
 rw [this]; exact hO
end
theorem kA {i : Int} {n : Nat} (h : decide (i < (n : Int)) = false) : n ≤ i.toNat := by
 have := of_decide_eq_false h
 omega
theorem bH {α : Type} {by_ : Nat} {xs zs : List α} {i : Int} {x : α} (hz : DP by_ [] xs = some zs) (hc : AH xs i = some x) : (BE (i + 1)).toNat = i.toNat + 1 := by
 have h1 := EZ hc
 unfold DP at hz
 split at hz
 case isFalse => cases hz
 rename_i h
 have h2 : xs.length ≤ 70368744177664 := by
  rcases h with h | h
  ·omega
  ·have := Nat.le_mul_of_pos_right (0 + xs.length) (Nat.succ_pos by_)
   have h9 : (0 + xs.length) * (by_ + 1) ≤ 70368744177664 := h
   have h8 : (0 + xs.length) ≤ (0 + xs.length) * (by_ + 1) := this
   omega
 rw [LL ⟨by omega, by omega⟩]
 omega
section steps
variable {m : Nat}
variable {P : bm} {h : Bp} {fk n base : Nat} {lk : Lk} {c : Cx} {ops : Array ch} {s kk : Bool} {d : Nat} {ty : ao} {pos : String} {aft : Array Edge} {l : List (Bool × Bool × ch)} {Q : St → Prop} {T : Nat → V} {G G' H H0 : A6} {rs : List BK} {op : Op} {S F F2 : List Nat}
variable {α β : Type} [AL α] [Aw α] [AL β] [Aw β]
theorem oD {xs : List α} {x : au} {t : ao} {v : V} {i : Nat} (hO : A4 H G rs) (j : Nat) (ht : IM P t = some false) (k : BU (B5 P h fk n base lk) ops l ⟨Cw T d (.int .i64 xs.length), G⟩ Q) (h1 : ev T x = some v := by rfl) (hj : rs[j]? = some (WA m F xs v i) := by rfl) (hd : cm d n = true := by rfl) :
  BU (B5 P h fk n base lk) ops ((s, kk, ⟨some d, .call ⟨.builtin .len, #[x], #[t]⟩, ty, pos, aft, none⟩) :: l) ⟨T, G⟩ Q := by
 refine Ae (b := false) (a := v) ht k h1 ?_ hd
 have := eO (hO.tree hj).1
 cases v <;> first | exact this | simp [Ct] at this
theorem rT {xs : List α} {q : Nat} {i : Int} {x : α} {t e : ao} {y z : au} {kd : IntKind} {v : V} (hO : A4 H G rs) (j : Nat) (hc : AH xs i = some x) (he : B6 P t = some e) (hz : B8 P e = some (AL.sz α)) (k : ∀ b, v = .sl b 0 xs.length → BU (B5 P h fk n base lk) ops l ⟨Cw T d (.ptr b (i.toNat * AL.sz α)), G⟩ Q)
  (h1 : ev T y = some v := by rfl) (h2 : ev T z = some (.int kd i) := by rfl) (hj : rs[j]? = some (WA m F xs v q) := by rfl) (hd : cm d n = true := by rfl) :
  BU (B5 P h fk n base lk) ops ((s, kk, ⟨some d, .indexAddr t y z, ty, pos, aft, none⟩) :: l) ⟨T, G⟩ Q := by
 obtain ⟨b, c1, F2, rfl, _⟩ := QA (hO.tree hj).1 hc
 refine pV ?_ hd (k b rfl)
 rw [DM]
 show (B6 P t).bind _ = _
 rw [he, aa]
 show (B8 P e).bind _ = _
 simp only [hz, h1, h2, aa, asInt, Qn, Ct]
 rw [if_pos (EZ hc)]
 simp
theorem Zj {xs : List α} {i : Int} {x : α} {c1 : List V} {F2 : List Nat} (hc : AH xs i = some x) (ht : NQ Aw.tr G (xs.take i.toNat) c1 F2) : c1.length = i.toNat * AL.sz α ∧ A8 m (xs.drop i.toNat) = AL.Ba m x ++ A8 m (xs.drop (i.toNat + 1)) := by
 have hi := EZ hc
 have hg := IY hc
 obtain ⟨h1, h2⟩ := ak.1 hg
 refine ⟨?_, ?_⟩
 ·rw [OX ht, List.length_take, Nat.min_eq_left (by omega)]
 ·rw [List.drop_eq_getElem_cons h1, h2, Cf]
theorem s6 {xs : List α} {i : Int} {x : α} {t : ao} {y : au} {v w : V} {off b : Nat} (hO : A4 H G rs) (j : Nat) (hv : v = .sl b 0 xs.length) (hc : AH xs i = some x) (ha : Cz P t = some false) (k : BU (B5 P h fk n base lk) ops l ⟨Cw T d w, G⟩ Q)
  (hw : (AL.Ba m x)[off]? = some w := by rfl) (h1 : ev T y = some (.ptr b (i.toNat * AL.sz α + off)) := by rfl) (hj : rs[j]? = some (WA m F xs v i.toNat) := by rfl) (hd : cm d n = true := by rfl) :
  BU (B5 P h fk n base lk) ops ((s, kk, ⟨some d, .load t y, ty, pos, aft, none⟩) :: l) ⟨T, G⟩ Q := by
 obtain ⟨b', c1, F2, rfl, hg, ht, _⟩ := QA (hO.tree hj).1 hc
 cases hv
 obtain ⟨e1, e2⟩ := Zj (m := m) hc ht
 refine eZ w hg ?_ k h1 hd
 have hlt := (ak.1 hw).1
 unfold BF
 rw [ha]
 show (c1 ++ A8 m (xs.drop i.toNat))[i.toNat * AL.sz α + off]? = some w
 rw [e2, ← e1, List.getElem?_append_right (ma _ _), ic, aw hlt, hw]
theorem s9 {xs : List α} {i : Int} {x : α} {ys : List β} {t : ao} {y z : au} {u v : V} {off b : Nat} {cx : List V} (hO : A4 H G (AI [] F2 ys [u] :: rs)) (j : Nat) (hv : v = .sl b 0 xs.length) (hc : AH xs i = some x) (hz : B8 P t = some 1) (hb : base = H.length)
  (hx : ∀ G F, Aw.tr G ys [u] F → Aw.tr G x cx F) (hcx : Bo (AL.Ba m x) off [u] = cx) (k : ∀ G', A4 H G' (rs.set j (WA m (F ++ F2) xs v (i.toNat + 1))) → BU (B5 P h fk n base lk) ops l ⟨T, G'⟩ Q)
  (h1 : ev T y = some (.ptr b (i.toNat * AL.sz α + off)) := by rfl) (h2 : ev T z = some u := by rfl) (ho : cm off (AL.sz α) = true := by rfl) (hj : rs[j]? = some (WA m F xs v i.toNat) := by rfl) :
  BU (B5 P h fk n base lk) ops ((s, kk, ⟨none, .store t y z, ty, pos, aft, none⟩) :: l) ⟨T, G⟩ Q := by
 have hj' : (AI [] F2 ys [u] :: rs)[j + 1]? = some (WA m F xs v i.toNat) := hj
 obtain ⟨hm, hbd⟩ := hO.tree hj'
 obtain ⟨ht2, hbd2⟩ := hO.tree (j := 0) (F := F2) (S := []) rfl
 obtain ⟨hu1, hu2⟩ := AN hO (j := 0) rfl
 have hap : ∀ c ∈ F2, c ∉ F := fun c hc hc' => (cg.1 hO.apart).1 _ (List.mem_of_getElem? hj) c hc hc'
 obtain ⟨b', c1, E, rfl, hg, ht, hn, hE⟩ := QA hm hc
 cases hv
 obtain ⟨e1, e2⟩ := Zj (m := m) hc ht
 have ho := ca ho
 have hlx : (AL.Ba m x).length = AL.sz α := AL.len x
 have hlt := (ak.1 hg).1
 have hbF := hE b (by simp)
 have hs : ∀ c, c ∉ F → (G.set b (.cells (AL.sz α) (Bo (c1 ++ A8 m (xs.drop i.toNat)) (i.toNat * AL.sz α + off) [u])))[c]? = G[c]? := fun c hc => by
  rw [Ai, if_neg]
  rintro ⟨rfl, _⟩; exact hc hbF
 have hsp : Bo (c1 ++ A8 m (xs.drop i.toNat)) (i.toNat * AL.sz α + off) [u] = c1 ++ cx ++ A8 m (xs.drop (i.toNat + 1)) := by
  rw [e2, ← e1, ← hcx]
  unfold Bo
  rw [List.take_append, fy (ma _ _), ic, List.take_append_of_le_length (by omega), cn, Nat.add_assoc, List.drop_append, fw (by omega), ic, List.drop_append_of_le_length (by omega)]
  simp
 obtain ⟨E2, n2, s2, t2⟩ := ht2
 have hbb : ¬ b < base := fun h => by rw [hb] at h; cases (hbd b hbF).2 h
 refine a7 (Fl (cells := c1 ++ A8 m (xs.drop i.toNat)) hz ?_ (if_neg hbb) hg ?_ (by rw [hu1]; rfl) (by rw [hu1]; simp [hu2]) h1 h2) (k _ ?_)
 ·unfold Cx.BV
  simp only [df, decide_eq_true_eq]
  exact .inl (Nat.not_lt.1 hbb)
 ·rw [hu1, e2]; simp only [an, cn]; omega
 ·rw [hu1]
  have h9 := hO.join (G' := G.set b (.cells (AL.sz α) (Bo (c1 ++ A8 m (xs.drop i.toNat)) (i.toNat * AL.sz α + off) [u]))) hj (bp ..) hs (p' := fun G => Kd m G xs (.sl b 0 xs.length) (F ++ F2) (i.toNat + 1)) fun G2 hG2 => ?_
  ·rwa [UY hO hj' hs] at h9
  ·refine Kd.mono (G := G.set b (.cells (AL.sz α) (Bo (c1 ++ A8 m (xs.drop i.toNat)) (i.toNat * AL.sz α + off) [u]))) ⟨b :: (E ++ E2), ?_, fun c hc => ?_, .inr ⟨b, c1 ++ cx, E ++ E2, rfl, by rw [Ai, if_pos ⟨rfl, hlt⟩, hsp], ?_, rfl⟩⟩ hG2
   ·rw [dp] at hn
    rw [dp, List.nodup_append]
    refine ⟨fun h => ?_, hn.2, n2, fun p hp q hq e => ?_⟩
    ·rcases aq.1 h with h | h
     ·exact hn.1 h
     ·exact hap b (s2 b h) hbF
    ·subst e; exact hap p (s2 p hq) (hE p (by simp [hp]))
   ·rcases bq.1 hc with rfl | hc
    ·exact cd _ hbF
    ·rcases aq.1 hc with hc | hc
     ·exact cd _ (hE c (by simp [hc]))
     ·exact List.mem_append_right _ (s2 c hc)
   ·have hg' := IY hc
    obtain ⟨g1, g2⟩ := ak.1 hg'
    rw [List.take_succ_eq_append_getElem g1, g2]
    refine QX (Fp ht fun c hc => ?_) (hx _ _ (Aw.frame t2 fun c hc => ?_))
    ·rw [Ai, if_neg]
     rintro ⟨rfl, _⟩
     exact (dp.1 hn).1 hc
    ·rw [Ai, if_neg]
     rintro ⟨rfl, _⟩
     exact hap _ (s2 _ hc) hbF
theorem eY {f : au} {args : Array au} {ats : Array ao} {g : FuncId} {fn : Func} {t e : ao} {by_ lv : Nat} {z : List V} {xs zs : List α} (hO : A4 H G rs) (happ : DP by_ [] xs = some zs)
    (hfn : P.funcs[g]? = some fn) (hcl : fn.body.bind G0 = some t) (he : B6 P t = some e) (hz : B8 P e = some (AL.sz α)) (hby : CH P e = some by_) (hz0 : BJ P e = some z)
    (k : ∀ v F G', A4 H G' (WA m F xs v 0 :: rs) → BU (B5 P h fk n base lk) ops l ⟨Cw T d v, G'⟩ Q)
    (h1 : ev T f = some (.fn g []) := by rfl) (h2 : LO T args.toList = some [.lit lv xs.length (A8 m xs)] := by rfl)
    (h3 : An ((B5 P h fk n base lk).BQ s kk) (h.DS g) G [.lit lv xs.length (A8 m xs)] = some ([.lit lv xs.length (A8 m xs)], [], G) := by rfl) (hzl : z.length = AL.sz α := by rfl) (hnt : cm 7 fn.ntmps = true := by rfl) (hres : fn.results = #[.tmp 2] := by rfl) (hname : (fn.name == "runtime.NumGoroutine") = false := by rfl) (hlm : m ≤ lk.length := by first | exact Nat.zero_le _ | assumption) (hg : h.grow g = false := by rfl) (ht : h.QW g = true := by rfl) (hd : cm d n = true := by rfl) :
    BU (B5 P h fk n base lk) ops ((s, kk, ⟨some d, .call ⟨.value f, args, ats⟩, ty, pos, aft, none⟩) :: l) ⟨T, G⟩ Q := by
  obtain ⟨body, hb, hcl⟩ := Option.bind_eq_some_iff.1 hcl
  have hnt := ca hnt
  unfold DP at happ
  split at happ
  case isFalse => cases happ
  rename_i hroom
  have hsz : (0 + xs.length) * (by_ + 1) ≤ 70368744177664 := by
    rcases hroom with h0 | h0
    · rw [h0]; simp
    · exact h0
  have call : ∀ v1 H1, Am P h g [.lit lv xs.length (A8 m xs)] G (lk ++ [((B5 P h fk n base lk).BQ s kk).CF g [] G]) = some (v1, H1) → Hi ((B5 P h fk n base lk).BQ s kk) (.call ⟨.value f, args, ats⟩) ⟨T, G⟩ = some (v1, H1) := fun v1 H1 hr => by
    rw [Gi]
    simp only [h1, h2, aa, Qh]
    show (An ((B5 P h fk n base lk).BQ s kk) (h.DS g) G ([.lit lv xs.length (A8 m xs)] ++ [])).bind _ = _
    rw [dh, h3]
    exact hr
  generalize hlk : lk ++ [((B5 P h fk n base lk).BQ s kk).CF g [] G] = lk2 at call
  have hlk2 : 0 < lk2.length := by rw [← hlk]; simp
  have hex := Kp (n := 0) { P := P, hints := h, fn := g, ntmps := fn.ntmps, base := G.length, lk := lk2, Γ := Dw P h 0 } hcl (by show 7 < fn.ntmps; omega) he hz hby hz0 hzl xs hsz (T := JO [.lit lv xs.length (A8 m xs)]) (G := G) (l := lv) rfl
  have key : ∀ r, ((if xs.length = 0 then some (([.tl 0 []] : List V), G) else some ([.snap G.length xs.length (A8 m xs)], G ++ [.C1 lk2.length xs.length (AL.sz α)])).bind fun r => Dd h g G.length lk2.length (EI r.1) r.2) = some r → Am P h g [.lit lv xs.length (A8 m xs)] G lk2 = some r := by
    intro r hr
    refine OV (n := 1) ?_
    unfold Dw
    simp only [hfn, hb]
    rw [if_pos ⟨by show 1 ≤ fn.ntmps; omega, hname⟩, hres]
    rw [hex]
    exact hr
  by_cases h0 : xs.length = 0
  · have hx : xs = [] := List.eq_nil_of_length_eq_zero h0
    subst hx
    refine pV (call (.tl 0 []) G (key _ ?_)) hd (k _ [] _ ⟨hO.pre, hO.len, fun r hr => ?_, cg.2 ⟨(fun r hr x hx => by cases hx), hO.apart⟩⟩)
    · rw [if_pos (show ([] : List α).length = 0 from rfl)]
      simp only [aa, EI, Dd, hg, ht, bd, if_false]
      show (BL true G.length lk2.length (7 + 1) (G, []) (.tl 0 [])).map _ = _
      rw [BL, if_pos rfl]
      simp
    · rcases bq.1 hr with rfl | hr
      · exact ⟨fun b hb => (by cases hb), fun _ _ => ⟨[], .nil, fun _ h => h, .inl ⟨rfl, rfl, rfl⟩⟩⟩
      · exact hO.ok r hr
  · refine pV (call (.sl G.length 0 xs.length) (G ++ [.cells (AL.sz α) (A8 m xs)]) (key _ ?_)) hd (k _ [G.length] _ ⟨fun b hb => by rw [aw (Nat.lt_of_lt_of_le hb hO.len)]; exact hO.pre b hb, by rw [an]; have := hO.len; omega, fun r hr => ?_, cg.2 ⟨fun r hr x hx hx' => ?_, hO.apart⟩⟩)
    · rw [if_neg h0]
      simp only [aa, EI, Dd, hg, ht, bd, if_false]
      show (BL true G.length lk2.length (7 + 1) (G ++ [.C1 lk2.length xs.length (AL.sz α)], []) (.snap G.length xs.length (A8 m xs))).map _ = _
      have hcl := fun X => Fa (th := true) (lo := G.length) (d := lk2.length) (k := 6) (X := X) (A8 m xs) (Hv (by rw [← hlk, an]; simp only [df, decide_eq_true_eq]; exact .inr (Nat.lt_succ_of_le hlm)) xs) (E9 xs)
      rw [BL]
      simp only [G5]
      rw [if_neg (by omega), hcl]
      simp only [aa, if_true]
      rw [if_pos (EA xs)]
      simp only [aj, List.length_nil, Nat.add_zero, dr]
      rw [List.set_append_right _ _ (Nat.le_refl _), List.take_left' rfl]
    · rcases bq.1 hr with rfl | hr
      · refine ⟨fun b hb => ?_, fun G' hG' => Kd.mono (G := G ++ [.cells (AL.sz α) (A8 m xs)]) ⟨[G.length], by simp, fun _ h => h, .inr ⟨G.length, [], [], rfl, by rw [G5, List.drop_zero, dr], ⟨rfl, rfl⟩, rfl⟩⟩ hG'⟩
        simp only [bh] at hb
        subst hb
        have := hO.len
        exact ⟨by simp, fun h => by omega⟩
      · have h1 := hO.ok r hr
        exact BK.Eb h1 fun x hx => by rw [aw (BK.E4 h1 hx)]
    · simp only [BK.CO, bh] at hx
      subst hx
      have := BK.E4 (hO.ok r hr) hx'
      omega
end steps
def Ho (i : Nat) : List Nat → Bool
 | [] => false
 | d :: l => bif Nat.beq i d then true else Ho i l
def Ag (ds : List Nat) (T T1 : Nat → V) : Prop := ∀ i, Ho i ds = false → T1 i = T i
def kp (ds : List Nat) (T J : Nat → V) : Nat → V := fun i => bif Ho i ds then J i else T i
section
variable {ds ds2 : List Nat} {T T1 J : Nat → V} {d : Nat} {v : V}
theorem Ag.same : Ag ds T T := fun _ _ => rfl
theorem Ag.up (h : Ag ds T T1) (hd : Ho d ds = true) : Ag ds T (Cw T1 d v) := fun i hi => by
 unfold Cw
 split
 ·rename_i e; subst e; rw [hd] at hi; cases hi
 ·exact h i hi
theorem Ag.kp (h : Ag ds T T1) (hs : (ds2.all fun i => Ho i ds) = true) : Ag ds T (kp ds2 T1 J) := fun i hi => by
 have : Ho i ds2 = false := by
  cases hm : Ho i ds2 with
  | false => rfl
  | true =>
   have key : ∀ l : List Nat, Ho i l = true → (l.all fun i => Ho i ds) = true → Ho i ds = true := by
    intro l
    induction l with
    | nil => intro h; cases h
    | cons x l ih =>
     intro h1 h2
     rw [gg, ar] at h2
     unfold Ho at h1
     cases hb : Nat.beq i x with
     | true => rw [Nat.eq_of_beq_eq_true hb]; exact h2.1
     | false => rw [hb] at h1; exact ih h1 h2.2
   rw [key ds2 hm hs] at hi
   cases hi
 show (bif Ho i ds2 then J i else T1 i) = T i
 rw [this]
 exact h i hi
theorem nW (h : Ag ds T T1) : T1 = K.kp ds T T1 := funext fun i => by
 show T1 i = bif Ho i ds then T1 i else T i
 cases hm : Ho i ds with
 | false => exact h i hm
 | true => rfl
end
section
variable {P : bm} {h : Bp} {fk n base : Nat} {lk : Lk} {c : Cx} {ops : Array ch} {T T1 : Nat → V} {G : A6} {Q : St → Prop} {d : Nat} {v : V} {ds : List Nat}
theorem AP {l1 l2 : List (Bool × Bool × ch)} (ds : List Nat) (d : Nat) (v : V) (h1 : BU c ops l1 ⟨T, G⟩ (fun S' => ∃ T1, Ag ds T T1 ∧ T1 d = v ∧ S' = ⟨T1, G⟩)) (h2 : ∀ J, BU c ops l2 ⟨Cw (kp ds T J) d v, G⟩ Q) : BU c ops (l1 ++ l2) ⟨T, G⟩ Q := by
 refine fV _ h1 fun S' hS => ?_
 obtain ⟨T1, a, hd, rfl⟩ := hS
 have := h2 T1
 rwa [← nW a, Ub hd] at this
theorem ek {T1 : Nat → V} (hd : T1 d = v := by rfl) (ha : Ag ds T T1 := by repeat (first | refine Ag.up ?_ (by rfl) | refine Ag.kp ?_ (by rfl) | exact Ag.same)) : ∃ T2, Ag ds T T2 ∧ T2 d = v ∧ (⟨T1, G⟩ : St) = ⟨T2, G⟩ := ⟨T1, ha, hd, rfl⟩
end
section
variable {P : bm} {h : Bp} {fk n base : Nat} {lk : Lk} {c : Cx} {ops : Array ch} {s kk : Bool} {d : Nat} {ty : ao} {pos : String} {aft : Array Edge} {l : List (Bool × Bool × ch)} {Q : St → Prop} {T : Nat → V} {G G' H : A6} {rs : List BK} {op : Op}
variable {α : Type} [AL α]
theorem NZ (hkp : h.H4 fk = true) : ∀ ps : List (Nat × V), CZ ((B5 P h fk n base lk).BQ s kk) G ps = some (ps, G)
 | [] => rfl
 | (i, v) :: r => by
  have e : Gc ((B5 P h fk n base lk).BQ s kk) G v = some (v, G) := by
   unfold Gc
   rw [show ((B5 P h fk n base lk).BQ s kk).hints.H4 ((B5 P h fk n base lk).BQ s kk).fn = true from hkp]
   rfl
  simp only [CZ, e, aa, NZ hkp r, aj]
theorem eX {t e : ao} {m : Nat} {parts : Array (Nat × au)} {ps : List (Nat × V)} {z : List V} (lm : Nat) (ys : List α) (he : B6 P t = some e) (hz : B8 P e = some (AL.sz α)) (hz0 : BJ P e = some z) (k : BU (B5 P h fk n base lk) ops l ⟨Cw T d (.tl ys.length (A8 lm ys)), G⟩ Q)
  (hzl : z.length = AL.sz α := by rfl) (hm : Nat.ble (m * AL.sz α) 1048576 = true := by rfl) (hlen : m = ys.length := by rfl) (hkp : h.H4 fk = true := by rfl) (h1 : S5 T parts.toList = some ps := by rfl) (h2 : Dv (fun i => some (i * AL.sz α, AL.sz α)) (List.replicate m z).flatten ps = some (A8 lm ys) := by rfl) (hd : cm d n = true := by rfl) :
  BU (B5 P h fk n base lk) ops ((s, kk, ⟨some d, .buildSlice t m parts, ty, pos, aft, none⟩) :: l) ⟨T, G⟩ Q := by
 refine pV ?_ hd k
 unfold Hi Cb
 simp only []
 rw [h1]
 simp only [aa, NZ hkp]
 show (B6 P t).bind _ = _
 rw [he]
 show (B8 P e).bind _ = _
 rw [hz]
 show (BJ P e).bind _ = _
 rw [hz0]
 simp only [aa]
 rw [if_pos ⟨hzl, Nat.pos_iff_ne_zero.1 AL.pos, ca hm⟩, h2, hlen]
 rfl
theorem fA {lm : Nat} {xs : List α} {i : Int} {x : α} {t e : ao} {y z : au} {kd : IntKind} (hc : AH xs i = some x) (he : B6 P t = some e) (hz : B8 P e = some (AL.sz α)) (k : BU (B5 P h fk n base lk) ops l ⟨Cw T d (.lp 0 (A8 lm xs) (i.toNat * AL.sz α)), G⟩ Q)
  (h1 : ev T y = some (.tl xs.length (A8 lm xs)) := by rfl) (h2 : ev T z = some (.int kd i) := by rfl) (hd : cm d n = true := by rfl) :
  BU (B5 P h fk n base lk) ops ((s, kk, ⟨some d, .indexAddr t y z, ty, pos, aft, none⟩) :: l) ⟨T, G⟩ Q := by
 refine pV ?_ hd k
 rw [DM]
 show (B6 P t).bind _ = _
 rw [he, aa]
 show (B8 P e).bind _ = _
 simp only [hz, h1, h2, aa, asInt, Qn, Ct]
 rw [if_pos (EZ hc)]
 rfl
end
section
variable {P : bm} {h : Bp} {G H : A6} {rs rs1 rs2 rs3 : List BK} {T : Nat → V} {dd : Nat}
variable {α β γ : Type} [AL α] [Aw α] [AL β] [Aw β] [AL γ] [Aw γ]
theorem A4.iF {p q n : Nat} {x : Bz} {F : List Nat} {xs : List α} {v : V} (hO : A4 H G rs) (i j : Nat) (hi : rs[i]? = some (.AW p x)) (hj : rs[j]? = some (AI [] F xs [v])) (hv : v = .sl q 0 n) : p ≠ q ∧ H.length ≤ q := by
 obtain ⟨⟨F', _, hF, ht⟩, hb⟩ := hO.tree hj
 have hq : q ∈ F := by
  rcases ht with ⟨_, h, _⟩ | ⟨b, cs, F2, h, _, _, rfl⟩
  ·simp only [ep, and_true] at h; rw [hv] at h; cases h
  ·simp only [ep, and_true] at h; rw [hv] at h; cases h; exact hF _ (List.mem_cons_self ..)
 refine ⟨fun e => ?_, Nat.le_of_not_lt fun h => by cases (hb q hq).2 h⟩
 subst e
 obtain ⟨i1, i2⟩ := ak.1 hi
 obtain ⟨j1, j2⟩ := ak.1 hj
 have hij : i ≠ j := by rintro rfl; rw [i2] at j2; cases j2
 have hp := List.pairwise_iff_getElem.1 hO.apart
 rcases Nat.lt_or_ge i j with h | h
 ·exact hp i j i1 j1 h p (by rw [i2]; simp [BK.CO]) (by rw [j2]; exact hq)
 ·exact hp j i j1 i1 (by omega) p (by rw [j2]; exact hq) (by rw [i2]; simp [BK.CO])
theorem sC {base : Nat} {T : Nat → V} {a b p q o1 o2 : Nat} (h : p ≠ q ∧ base ≤ q) (h1 : T a = .ptr p o1 := by rfl) (h2 : T b = .ptr q o2 := by rfl) : ([(a, b)].all fun p => En base (T p.1) (T p.2)) = true := by
 simp only [gg, List.all_nil, Bool.and_true, h1, h2, En, ar, bne_iff_ne, ne_eq, decide_eq_true_eq]
 exact h
end
section calls
variable {P : bm} {h : Bp} {fk n base : Nat} {lk : Lk} {ops : Array ch} {s kk : Bool} {d : Nat} {ty : ao} {pos : String} {aft : Array Edge} {l : List (Bool × Bool × ch)} {Q : St → Prop} {T : Nat → V} {G G' H : A6} {rs : List BK}
variable {α β γ : Type} [AL α] [Aw α] [AL β] [Aw β] [AL γ] [Aw γ]
end calls
def mE (l : List Nat) : List (Nat × Bool) := l.map fun n => (n / 2, n % 2 == 1)
theorem HY {c : Cx} {ops : Array ch} {S : St} {Q : X → St → Prop} {id : Nat} (l : List Nat) (l' : List (Bool × Bool × ch)) (hq : BU c ops l' S (Q .normal)) (h : YX ops (mE l) = true := by decide +kernel) (hl : Kq ops (mE l) = l' := by rfl) : GZ c (.region id ops true) S Q := fT _ l' h hl hq
section
variable {P : bm} {h : Bp} {fk n base : Nat} {lk : Lk} {c : Cx} {ops : Array ch} {S : St} {Q : X → St → Prop} {T : Nat → V} {G : A6}
theorem pg {k : St → Prop} (h1 : k ⟨T, G⟩) : BU c ops [] ⟨T, G⟩ (Pp k Q .normal) := pE (gn h1)
theorem sr {id : Nat} {l : List ch} {q : Code} (h1 : BU (B5 P h fk n base lk) l.toArray (l.map fun o => (false, false, o)) S (Pp (fun S' => GZ (B5 P h fk n base lk) q S' Q) Q .normal)) : GZ (B5 P h fk n base lk) (.seq (.region id l.toArray false) q) S Q := AV (Bs h1)
end
end Go.Proofs.YtphpkphklegfeaaGreat.K
