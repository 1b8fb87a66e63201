/-
 An interpreter of the Go code, proved sound, and the rules by which typed functions are shown to be what it computes. Part 4 of 4. No conditions.
-/
import Derived.Test.YtphpkphklegfeaaGreatK2
set_option linter.unusedVariables false
set_option linter.unusedSimpArgs false
namespace Go.Proofs.YtphpkphklegfeaaGreat.K
theorem WE {α : Type} {n : Nat} {ys z : List α} (h : DC n [] ys = some z) : z = ys := by
 unfold DC at h
 split at h
 ·rw [List.nil_append] at h; exact (Option.some.inj h).symm
 ·cases h
section
variable {α β : Type} [AL α] [Ao α] [AL β] [Ao β] {G G' H : A3} {F F2 : List Nat} {xs : List α} {x : α} {y : β} {v : V} {rs : List BE} {cs c1 c2 : List V}
theorem CH.MG [D1 α] (x : α) (h : CH G y c2 F) : CH G (x, y) (AL.BY 0 x ++ c2) F := by
 obtain ⟨F', h1, h2, h3⟩ := h
 exact ⟨F', h1, h2, _, _, [], F', rfl, rfl, D1.fl G x, h3⟩
theorem CH.SG [D1 β] (y : β) (h : CH G x c1 F) : CH G (x, y) (c1 ++ AL.BY 0 y) F := by
 obtain ⟨F', h1, h2, h3⟩ := h
 exact ⟨F', h1, h2, _, _, F', [], rfl, by simp, h3, D1.fl G y⟩
theorem TrE.MG [D1 α] (x : α) (h : Ao.tr G y c2 F) : Ao.tr G (x, y) (AL.BY 0 x ++ c2) F := ⟨_, _, [], F, rfl, rfl, D1.fl G x, h⟩
theorem TrE.SG [D1 β] (y : β) (h : Ao.tr G x c1 F) : Ao.tr G (x, y) (c1 ++ AL.BY 0 y) F := ⟨_, _, F, [], rfl, by simp, h, D1.fl G y⟩
theorem A5.jV [D1 β] {ys : List β} {b sz m : Nat} (hO : A5 H G (.Ad b (.cells sz ((A8 0) ys)) :: rs)) (hl : ys.length = m) (hsz : sz = AL.sz β := by rfl) : A5 H G (AY [] [b] ys [.sl b 0 m] :: rs) := by
 subst hsz hl
 obtain ⟨hgb, hbb⟩ := hO.get (k := 0) rfl
 have hlt := (List.getElem?_eq_some_iff.1 hgb).1
 refine ⟨hO.pre, hO.len, fun r hr => ?_, ?_⟩
 ·rcases List.mem_cons.1 hr with rfl | hr
  ·refine HD ⟨[b], by simp, fun _ h => h, .inr ⟨b, _, [], rfl, hgb, Ka ys, rfl⟩⟩ fun c hc => ?_
   simp only [List.mem_singleton] at hc
   subst hc
   exact ⟨hlt, fun h => by omega⟩
  ·exact hO.ok r (List.mem_cons_of_mem _ hr)
 ·have := List.pairwise_cons.1 hO.apart
  exact List.pairwise_cons.2 ⟨fun r hr c hc => this.1 r hr c (by simpa [BE.CB] using hc), this.2⟩
variable {m : Nat}
def Jd (m : Nat) (G : A3) (xs : List α) (v : V) (F : List Nat) (k : Nat) : Prop := ∃ F', F'.Nodup ∧ (∀ b ∈ F', b ∈ F) ∧ ((xs = [] ∧ v = .tl 0 [] ∧ F' = []) ∨
 ∃ b c1 F2, v = .sl b 0 xs.length ∧ G[b]? = some (.cells (AL.sz α) (c1 ++ A8 m (xs.drop k))) ∧ Lw Ao.tr G (xs.take k) c1 F2 ∧ F' = b :: F2)
abbrev UN (m : Nat) (F : List Nat) (xs : List α) (v : V) (k : Nat) : BE := .tree [] F fun G => Jd m G xs v F k
theorem Jd.mono {k : Nat} (h : Jd m G xs v F k) (hg : ∀ b ∈ F, G'[b]? = G[b]?) : Jd m G' xs v F k := by
 obtain ⟨F', h1, h2, h3⟩ := h
 refine ⟨F', h1, h2, ?_⟩
 rcases h3 with h3 | ⟨b, c1, F2, e1, e2, e3, rfl⟩
 ·exact .inl h3
 ·exact .inr ⟨b, c1, F2, e1, by rw [hg b (h2 b (by simp))]; exact e2, Ey e3 fun c hc => hg c (h2 c (by simp [hc])), rfl⟩
theorem Zl {k : Nat} (h : Jd m G xs v F k) : CY v = some xs.length := by
 obtain ⟨F', _, _, ⟨rfl, rfl, _⟩ | ⟨b, c1, F2, rfl, _⟩⟩ := h <;> rfl
theorem Vg {j k : Nat} (hO : A5 H G rs) (hj : rs[j]? = some (UN m F xs v k)) : v.cellsOf = [v] ∧ v.Bb = true := by
 obtain ⟨F', _, _, ⟨rfl, rfl, _⟩ | ⟨b, c1, F2, rfl, _⟩⟩ := (hO.tree hj).1 <;> exact ⟨rfl, rfl⟩
theorem OV {k : Nat} {i : Int} (h : Jd m G xs v F k) (hx : AK xs i = some x) : ∃ b c1 F2, v = .sl b 0 xs.length ∧ G[b]? = some (.cells (AL.sz α) (c1 ++ A8 m (xs.drop k))) ∧ Lw Ao.tr G (xs.take k) c1 F2 ∧ (b :: F2).Nodup ∧ ∀ c ∈ b :: F2, c ∈ F := by
 obtain ⟨F', h1, h2, ⟨rfl, _, _⟩ | ⟨b, c1, F2, e1, e2, e3, rfl⟩⟩ := h
 ·have := Dx hx; simp at this; omega
 ·exact ⟨b, c1, F2, e1, e2, e3, h1, h2⟩
theorem Xh {k : Nat} (h : Jd m G xs v F k) (hk : xs.length ≤ k) : CH G xs [v] F := by
 obtain ⟨F', h1, h2, ⟨rfl, rfl, rfl⟩ | ⟨b, c1, F2, rfl, e2, e3, rfl⟩⟩ := h
 ·exact ⟨[], .nil, (fun _ h => by cases h), .inl ⟨rfl, rfl, rfl⟩⟩
 ·rw [List.take_of_length_le hk] at e3
  rw [List.drop_of_length_le hk, Rr, List.append_nil] at e2
  exact ⟨_, h1, h2, .inr ⟨b, c1, F2, rfl, e2, e3, rfl⟩⟩
theorem A5.Zk {j k : Nat} (hO : A5 H G rs) (hj : rs[j]? = some (UN m F xs v k)) (hk : xs.length ≤ k) : A5 H G (rs.set j (AY [] F xs [v])) := by
 have h := hO.tree hj
 refine ⟨hO.pre, hO.len, fun r hr => ?_, IC hO.apart hj fun y hy => hy⟩
 obtain ⟨i, hi, e⟩ := List.mem_iff_getElem.1 hr
 rw [List.length_set] at hi
 rw [List.getElem_set] at e
 split at e
 ·subst e
  exact HD (Xh h.1 hk) h.2
 ·subst e
  exact hO.ok _ (List.getElem_mem hi)
theorem A5.iN {j k k' : Nat} (hO : A5 H G rs) (hj : rs[j]? = some (UN m F xs v k)) (e : k' = k) : A5 H G (rs.set j (UN m F xs v k')) := by
 subst e
 obtain ⟨h1, h2⟩ := List.getElem?_eq_some_iff.1 hj
 have : rs.set j (UN m F xs v k') = rs := by rw [← h2]; exact List.set_getElem_self h1
 rw [this]; exact hO
end
theorem dU {i : Int} {n : Nat} (h : decide (i < (n : Int)) = false) : n ≤ i.toNat := by
 have := of_decide_eq_false h
 omega
theorem YM {α : Type} {by_ : Nat} {xs zs : List α} {i : Int} {x : α} (hz : DC by_ [] xs = some zs) (hc : AK xs i = some x) : (BT (i + 1)).toNat = i.toNat + 1 := by
 have h1 := Dx hc
 unfold DC at hz
 split at hz
 case isFalse => cases hz
 rename_i h
 have h2 : xs.length ≤ 70368744177664 := by
  rcases h with h | h
  ·omega
  ·have := Nat.le_mul_of_pos_right (0 + xs.length) (Nat.succ_pos by_)
   have h9 : (0 + xs.length) * (by_ + 1) ≤ 70368744177664 := h
   have h8 : (0 + xs.length) ≤ (0 + xs.length) * (by_ + 1) := this
   omega
 rw [K9 ⟨by omega, by omega⟩]
 omega
section steps
variable {m : Nat}
variable {P : Program} {h : Be} {fk n base : Nat} {lk : Lk} {c : Cx} {ops : Array Oper} {s kk : Bool} {d : Nat} {ty : TypeId} {pos : String} {aft : Array Edge} {l : List (Bool × Bool × Oper)} {Q : St → Prop} {T : Nat → V} {G G' H H0 : A3} {rs : List BE} {op : Op} {S F F2 : List Nat}
variable {α β : Type} [AL α] [Ao α] [AL β] [Ao β]
theorem iV {xs : List α} {x : Operand} {t : TypeId} {v : V} {i : Nat} (hO : A5 H G rs) (j : Nat) (ht : HN P t = some false) (k : BN (Ay P h fk n base lk) ops l ⟨Cc T d (.int .i64 xs.length), G⟩ Q) (h1 : ev T x = some v := by rfl) (hj : rs[j]? = some (UN m F xs v i) := by rfl) (hd : Nat.blt d n = true := by rfl) :
  BN (Ay P h fk n base lk) ops ((s, kk, ⟨some d, .call ⟨.builtin .len, #[x], #[t]⟩, ty, pos, aft, none⟩) :: l) ⟨T, G⟩ Q := by
 refine Af (b := false) (a := v) ht k h1 ?_ hd
 have := Zl (hO.tree hj).1
 cases v <;> first | exact this | simp [CY] at this
theorem mK {xs : List α} {q : Nat} {i : Int} {x : α} {t e : TypeId} {y z : Operand} {kd : IntKind} {v : V} (hO : A5 H G rs) (j : Nat) (hc : AK xs i = some x) (he : Au P t = some e) (hz : B3 P e = some (AL.sz α)) (k : ∀ b, v = .sl b 0 xs.length → BN (Ay P h fk n base lk) ops l ⟨Cc T d (.ptr b (i.toNat * AL.sz α)), G⟩ Q)
  (h1 : ev T y = some v := by rfl) (h2 : ev T z = some (.int kd i) := by rfl) (hj : rs[j]? = some (UN m F xs v q) := by rfl) (hd : Nat.blt d n = true := by rfl) :
  BN (Ay P h fk n base lk) ops ((s, kk, ⟨some d, .indexAddr t y z, ty, pos, aft, none⟩) :: l) ⟨T, G⟩ Q := by
 obtain ⟨b, c1, F2, rfl, _⟩ := OV (hO.tree hj).1 hc
 refine pV ?_ hd (k b rfl)
 rw [Cz]
 show (Au P t).bind _ = _
 rw [he, Option.bind_some]
 show (B3 P e).bind _ = _
 simp only [hz, h1, h2, Option.bind_some, asInt, P8, CY]
 rw [if_pos (Dx hc)]
 simp
theorem Xg {xs : List α} {i : Int} {x : α} {c1 : List V} {F2 : List Nat} (hc : AK xs i = some x) (ht : Lw Ao.tr G (xs.take i.toNat) c1 F2) : c1.length = i.toNat * AL.sz α ∧ A8 m (xs.drop i.toNat) = AL.BY m x ++ A8 m (xs.drop (i.toNat + 1)) := by
 have hi := Dx hc
 have hg := HY hc
 obtain ⟨h1, h2⟩ := List.getElem?_eq_some_iff.1 hg
 refine ⟨?_, ?_⟩
 ·rw [Mw ht, List.length_take, Nat.min_eq_left (by omega)]
 ·rw [List.drop_eq_getElem_cons h1, h2, CR]
theorem mV {xs : List α} {i : Int} {x : α} {t : TypeId} {y : Operand} {v w : V} {off b : Nat} (hO : A5 H G rs) (j : Nat) (hv : v = .sl b 0 xs.length) (hc : AK xs i = some x) (ha : Ct P t = some false) (k : BN (Ay P h fk n base lk) ops l ⟨Cc T d w, G⟩ Q)
  (hw : (AL.BY m x)[off]? = some w := by rfl) (h1 : ev T y = some (.ptr b (i.toNat * AL.sz α + off)) := by rfl) (hj : rs[j]? = some (UN m F xs v i.toNat) := by rfl) (hd : Nat.blt d n = true := by rfl) :
  BN (Ay P h fk n base lk) ops ((s, kk, ⟨some d, .load t y, ty, pos, aft, none⟩) :: l) ⟨T, G⟩ Q := by
 obtain ⟨b', c1, F2, rfl, hg, ht, _⟩ := OV (hO.tree hj).1 hc
 cases hv
 obtain ⟨e1, e2⟩ := Xg (m := m) hc ht
 refine bG w hg ?_ k h1 hd
 have hlt := (List.getElem?_eq_some_iff.1 hw).1
 unfold B9
 rw [ha]
 show (c1 ++ A8 m (xs.drop i.toNat))[i.toNat * AL.sz α + off]? = some w
 rw [e2, ← e1, List.getElem?_append_right (Nat.le_add_right _ _), Nat.add_sub_cancel_left, List.getElem?_append_left hlt, hw]
theorem mY {xs : List α} {i : Int} {x : α} {ys : List β} {t : TypeId} {y z : Operand} {u v : V} {off b : Nat} {cx : List V} (hO : A5 H G (AY [] F2 ys [u] :: rs)) (j : Nat) (hv : v = .sl b 0 xs.length) (hc : AK xs i = some x) (hz : B3 P t = some 1) (hb : base = H.length)
  (hx : ∀ G F, Ao.tr G ys [u] F → Ao.tr G x cx F) (hcx : Bc (AL.BY m x) off [u] = cx) (k : ∀ G', A5 H G' (rs.set j (UN m (F ++ F2) xs v (i.toNat + 1))) → BN (Ay P h fk n base lk) ops l ⟨T, G'⟩ Q)
  (h1 : ev T y = some (.ptr b (i.toNat * AL.sz α + off)) := by rfl) (h2 : ev T z = some u := by rfl) (ho : Nat.blt off (AL.sz α) = true := by rfl) (hj : rs[j]? = some (UN m F xs v i.toNat) := by rfl) :
  BN (Ay P h fk n base lk) ops ((s, kk, ⟨none, .store t y z, ty, pos, aft, none⟩) :: l) ⟨T, G⟩ Q := by
 have hj' : (AY [] F2 ys [u] :: rs)[j + 1]? = some (UN m F xs v i.toNat) := hj
 obtain ⟨hm, hbd⟩ := hO.tree hj'
 obtain ⟨ht2, hbd2⟩ := hO.tree (j := 0) (F := F2) (S := []) rfl
 obtain ⟨hu1, hu2⟩ := B6 hO (j := 0) rfl
 have hap : ∀ c ∈ F2, c ∉ F := fun c hc hc' => (List.pairwise_cons.1 hO.apart).1 _ (List.mem_of_getElem? hj) c hc hc'
 obtain ⟨b', c1, E, rfl, hg, ht, hn, hE⟩ := OV hm hc
 cases hv
 obtain ⟨e1, e2⟩ := Xg (m := m) hc ht
 have ho := Nat.le_of_ble_eq_true ho
 have hlx : (AL.BY m x).length = AL.sz α := AL.len x
 have hlt := (List.getElem?_eq_some_iff.1 hg).1
 have hbF := hE b (by simp)
 have hs : ∀ c, c ∉ F → (G.set b (.cells (AL.sz α) (Bc (c1 ++ A8 m (xs.drop i.toNat)) (i.toNat * AL.sz α + off) [u])))[c]? = G[c]? := fun c hc => by
  rw [Ac, if_neg]
  rintro ⟨rfl, _⟩; exact hc hbF
 have hsp : Bc (c1 ++ A8 m (xs.drop i.toNat)) (i.toNat * AL.sz α + off) [u] = c1 ++ cx ++ A8 m (xs.drop (i.toNat + 1)) := by
  rw [e2, ← e1, ← hcx]
  unfold Bc
  rw [List.take_append, List.take_of_length_le (Nat.le_add_right _ _), Nat.add_sub_cancel_left, List.take_append_of_le_length (by omega), List.length_singleton, Nat.add_assoc, List.drop_append, List.drop_of_length_le (by omega), Nat.add_sub_cancel_left, List.drop_append_of_le_length (by omega)]
  simp
 obtain ⟨E2, n2, s2, t2⟩ := ht2
 have hbb : ¬ b < base := fun h => by rw [hb] at h; cases (hbd b hbF).2 h
 refine Ye (Fh (cells := c1 ++ A8 m (xs.drop i.toNat)) hz ?_ (if_neg hbb) hg ?_ (by rw [hu1]; rfl) (by rw [hu1]; simp [hu2]) h1 h2) (k _ ?_)
 ·unfold Cx.BP
  simp only [Bool.or_eq_true, decide_eq_true_eq]
  exact .inl (Nat.not_lt.1 hbb)
 ·rw [hu1, e2]; simp only [List.length_append, List.length_singleton]; omega
 ·rw [hu1]
  have h9 := hO.join (G' := G.set b (.cells (AL.sz α) (Bc (c1 ++ A8 m (xs.drop i.toNat)) (i.toNat * AL.sz α + off) [u]))) hj (List.length_set ..) hs (p' := fun G => Jd m G xs (.sl b 0 xs.length) (F ++ F2) (i.toNat + 1)) fun G2 hG2 => ?_
  ·rwa [Sb hO hj' hs] at h9
  ·refine Jd.mono (G := G.set b (.cells (AL.sz α) (Bc (c1 ++ A8 m (xs.drop i.toNat)) (i.toNat * AL.sz α + off) [u]))) ⟨b :: (E ++ E2), ?_, fun c hc => ?_, .inr ⟨b, c1 ++ cx, E ++ E2, rfl, by rw [Ac, if_pos ⟨rfl, hlt⟩, hsp], ?_, rfl⟩⟩ hG2
   ·rw [List.nodup_cons] at hn
    rw [List.nodup_cons, List.nodup_append]
    refine ⟨fun h => ?_, hn.2, n2, fun p hp q hq e => ?_⟩
    ·rcases List.mem_append.1 h with h | h
     ·exact hn.1 h
     ·exact hap b (s2 b h) hbF
    ·subst e; exact hap p (s2 p hq) (hE p (by simp [hp]))
   ·rcases List.mem_cons.1 hc with rfl | hc
    ·exact List.mem_append_left _ hbF
    ·rcases List.mem_append.1 hc with hc | hc
     ·exact List.mem_append_left _ (hE c (by simp [hc]))
     ·exact List.mem_append_right _ (s2 c hc)
   ·have hg' := HY hc
    obtain ⟨g1, g2⟩ := List.getElem?_eq_some_iff.1 hg'
    rw [List.take_succ_eq_append_getElem g1, g2]
    refine Ou (Ey ht fun c hc => ?_) (hx _ _ (Ao.frame t2 fun c hc => ?_))
    ·rw [Ac, if_neg]
     rintro ⟨rfl, _⟩
     exact (List.nodup_cons.1 hn).1 hc
    ·rw [Ac, if_neg]
     rintro ⟨rfl, _⟩
     exact hap _ (s2 _ hc) hbF
theorem Zv {f : Operand} {args : Array Operand} {ats : Array TypeId} {g : FuncId} {fn : Func} {t e : TypeId} {by_ lv : Nat} {z : List V} {xs zs : List α} (hO : A5 H G rs) (happ : DC by_ [] xs = some zs)
    (hfn : P.funcs[g]? = some fn) (hcl : fn.body.bind FK = some t) (he : Au P t = some e) (hz : B3 P e = some (AL.sz α)) (hby : C0 P e = some by_) (hz0 : BD P e = some z)
    (k : ∀ v F G', A5 H G' (UN m F xs v 0 :: rs) → BN (Ay P h fk n base lk) ops l ⟨Cc T d v, G'⟩ Q)
    (h1 : ev T f = some (.fn g []) := by rfl) (h2 : KB T args.toList = some [.lit lv xs.length (A8 m xs)] := by rfl)
    (h3 : Aj ((Ay P h fk n base lk).BG s kk) (h.D7 g) G [.lit lv xs.length (A8 m xs)] = some ([.lit lv xs.length (A8 m xs)], [], G) := by rfl) (hzl : z.length = AL.sz α := by rfl) (hnt : Nat.blt 7 fn.ntmps = true := by rfl) (hres : fn.results = #[.tmp 2] := by rfl) (hname : (fn.name == "runtime.NumGoroutine") = false := by rfl) (hlm : m ≤ lk.length := by first | exact Nat.zero_le _ | assumption) (hg : h.grow g = false := by rfl) (ht : h.Ot g = true := by rfl) (hd : Nat.blt d n = true := by rfl) :
    BN (Ay P h fk n base lk) ops ((s, kk, ⟨some d, .call ⟨.value f, args, ats⟩, ty, pos, aft, none⟩) :: l) ⟨T, G⟩ Q := by
  obtain ⟨body, hb, hcl⟩ := Option.bind_eq_some_iff.1 hcl
  have hnt := Nat.le_of_ble_eq_true hnt
  unfold DC at happ
  split at happ
  case isFalse => cases happ
  rename_i hroom
  have hsz : (0 + xs.length) * (by_ + 1) ≤ 70368744177664 := by
    rcases hroom with h0 | h0
    · rw [h0]; simp
    · exact h0
  have call : ∀ v1 H1, Am P h g [.lit lv xs.length (A8 m xs)] G (lk ++ [((Ay P h fk n base lk).BG s kk).By g [] G]) = some (v1, H1) → Gr ((Ay P h fk n base lk).BG s kk) (.call ⟨.value f, args, ats⟩) ⟨T, G⟩ = some (v1, H1) := fun v1 H1 hr => by
    rw [Fy]
    simp only [h1, h2, Option.bind_some, P2]
    show (Aj ((Ay P h fk n base lk).BG s kk) (h.D7 g) G ([.lit lv xs.length (A8 m xs)] ++ [])).bind _ = _
    rw [List.append_nil, h3]
    exact hr
  generalize hlk : lk ++ [((Ay P h fk n base lk).BG s kk).By g [] G] = lk2 at call
  have hlk2 : 0 < lk2.length := by rw [← hlk]; simp
  have hex := Jo (n := 0) { P := P, hints := h, fn := g, ntmps := fn.ntmps, base := G.length, lk := lk2, Γ := DO P h 0 } hcl (by show 7 < fn.ntmps; omega) he hz hby hz0 hzl xs hsz (T := IN [.lit lv xs.length (A8 m xs)]) (G := G) (l := lv) rfl
  have key : ∀ r, ((if xs.length = 0 then some (([.tl 0 []] : List V), G) else some ([.snap G.length xs.length (A8 m xs)], G ++ [.Bk lk2.length xs.length (AL.sz α)])).bind fun r => DD h g G.length lk2.length (De r.1) r.2) = some r → Am P h g [.lit lv xs.length (A8 m xs)] G lk2 = some r := by
    intro r hr
    refine Mu (n := 1) ?_
    unfold DO
    simp only [hfn, hb]
    rw [if_pos ⟨by show 1 ≤ fn.ntmps; omega, hname⟩, hres]
    rw [hex]
    exact hr
  by_cases h0 : xs.length = 0
  · have hx : xs = [] := List.eq_nil_of_length_eq_zero h0
    subst hx
    refine pV (call (.tl 0 []) G (key _ ?_)) hd (k _ [] _ ⟨hO.pre, hO.len, fun r hr => ?_, List.pairwise_cons.2 ⟨(fun r hr x hx => by cases hx), hO.apart⟩⟩)
    · rw [if_pos (show ([] : List α).length = 0 from rfl)]
      simp only [Option.bind_some, De, DD, hg, ht, Bool.false_eq_true, if_false]
      show (BA true G.length lk2.length (7 + 1) (G, []) (.tl 0 [])).map _ = _
      rw [BA, if_pos rfl]
      simp
    · rcases List.mem_cons.1 hr with rfl | hr
      · exact ⟨fun b hb => (by cases hb), fun _ _ => ⟨[], .nil, fun _ h => h, .inl ⟨rfl, rfl, rfl⟩⟩⟩
      · exact hO.ok r hr
  · refine pV (call (.sl G.length 0 xs.length) (G ++ [.cells (AL.sz α) (A8 m xs)]) (key _ ?_)) hd (k _ [G.length] _ ⟨fun b hb => by rw [List.getElem?_append_left (Nat.lt_of_lt_of_le hb hO.len)]; exact hO.pre b hb, by rw [List.length_append]; have := hO.len; omega, fun r hr => ?_, List.pairwise_cons.2 ⟨fun r hr x hx hx' => ?_, hO.apart⟩⟩)
    · rw [if_neg h0]
      simp only [Option.bind_some, De, DD, hg, ht, Bool.false_eq_true, if_false]
      show (BA true G.length lk2.length (7 + 1) (G ++ [.Bk lk2.length xs.length (AL.sz α)], []) (.snap G.length xs.length (A8 m xs))).map _ = _
      have hcl := fun X => Eo (th := true) (lo := G.length) (d := lk2.length) (k := 6) (X := X) (A8 m xs) (H4 (by rw [← hlk, List.length_append]; simp only [Bool.or_eq_true, decide_eq_true_eq]; exact .inr (Nat.lt_succ_of_le hlm)) xs) (DX xs)
      rw [BA]
      simp only [FM]
      rw [if_neg (by omega), hcl]
      simp only [Option.bind_some, if_true]
      rw [if_pos (DY xs)]
      simp only [Option.map_some, List.length_nil, Nat.add_zero, List.nil_append]
      rw [List.set_append_right _ _ (Nat.le_refl _), List.take_left' rfl]
    · rcases List.mem_cons.1 hr with rfl | hr
      · refine ⟨fun b hb => ?_, fun G' hG' => Jd.mono (G := G ++ [.cells (AL.sz α) (A8 m xs)]) ⟨[G.length], by simp, fun _ h => h, .inr ⟨G.length, [], [], rfl, by rw [FM, List.drop_zero, List.nil_append], ⟨rfl, rfl⟩, rfl⟩⟩ hG'⟩
        simp only [List.mem_singleton] at hb
        subst hb
        have := hO.len
        exact ⟨by simp, fun h => by omega⟩
      · have h1 := hO.ok r hr
        exact BE.Dz h1 fun x hx => by rw [List.getElem?_append_left (BE.DT h1 hx)]
    · simp only [BE.CB, List.mem_singleton] at hx
      subst hx
      have := BE.DT (hO.ok r hr) hx'
      omega
end steps
def Gu (i : Nat) : List Nat → Bool
 | [] => false
 | d :: l => bif Nat.beq i d then true else Gu i l
def Ag (ds : List Nat) (T T1 : Nat → V) : Prop := ∀ i, Gu i ds = false → T1 i = T i
def kp (ds : List Nat) (T J : Nat → V) : Nat → V := fun i => bif Gu i ds then J i else T i
section
variable {ds ds2 : List Nat} {T T1 J : Nat → V} {d : Nat} {v : V}
theorem Ag.same : Ag ds T T := fun _ _ => rfl
theorem Ag.up (h : Ag ds T T1) (hd : Gu d ds = true) : Ag ds T (Cc T1 d v) := fun i hi => by
 unfold Cc
 split
 ·rename_i e; subst e; rw [hd] at hi; cases hi
 ·exact h i hi
theorem Ag.kp (h : Ag ds T T1) (hs : (ds2.all fun i => Gu i ds) = true) : Ag ds T (kp ds2 T1 J) := fun i hi => by
 have : Gu i ds2 = false := by
  cases hm : Gu i ds2 with
  | false => rfl
  | true =>
   have key : ∀ l : List Nat, Gu i l = true → (l.all fun i => Gu i ds) = true → Gu i ds = true := by
    intro l
    induction l with
    | nil => intro h; cases h
    | cons x l ih =>
     intro h1 h2
     rw [List.all_cons, Bool.and_eq_true] at h2
     unfold Gu at h1
     cases hb : Nat.beq i x with
     | true => rw [Nat.eq_of_beq_eq_true hb]; exact h2.1
     | false => rw [hb] at h1; exact ih h1 h2.2
   rw [key ds2 hm hs] at hi
   cases hi
 show (bif Gu i ds2 then J i else T1 i) = T i
 rw [this]
 exact h i hi
theorem iJ (h : Ag ds T T1) : T1 = K.kp ds T T1 := funext fun i => by
 show T1 i = bif Gu i ds then T1 i else T i
 cases hm : Gu i ds with
 | false => exact h i hm
 | true => rfl
end
section
variable {P : Program} {h : Be} {fk n base : Nat} {lk : Lk} {c : Cx} {ops : Array Oper} {T T1 : Nat → V} {G : A3} {Q : St → Prop} {d : Nat} {v : V} {ds : List Nat}
theorem AS {l1 l2 : List (Bool × Bool × Oper)} (ds : List Nat) (d : Nat) (v : V) (h1 : BN c ops l1 ⟨T, G⟩ (fun S' => ∃ T1, Ag ds T T1 ∧ T1 d = v ∧ S' = ⟨T1, G⟩)) (h2 : ∀ J, BN c ops l2 ⟨Cc (kp ds T J) d v, G⟩ Q) : BN c ops (l1 ++ l2) ⟨T, G⟩ Q := by
 refine aM _ h1 fun S' hS => ?_
 obtain ⟨T1, a, hd, rfl⟩ := hS
 have := h2 T1
 rwa [← iJ a, Sf hd] at this
theorem ek {T1 : Nat → V} (hd : T1 d = v := by rfl) (ha : Ag ds T T1 := by repeat (first | refine Ag.up ?_ (by rfl) | refine Ag.kp ?_ (by rfl) | exact Ag.same)) : ∃ T2, Ag ds T T2 ∧ T2 d = v ∧ (⟨T1, G⟩ : St) = ⟨T2, G⟩ := ⟨T1, ha, hd, rfl⟩
end
section
variable {P : Program} {h : Be} {fk n base : Nat} {lk : Lk} {c : Cx} {ops : Array Oper} {s kk : Bool} {d : Nat} {ty : TypeId} {pos : String} {aft : Array Edge} {l : List (Bool × Bool × Oper)} {Q : St → Prop} {T : Nat → V} {G G' H : A3} {rs : List BE} {op : Op}
variable {α : Type} [AL α]
theorem M6 (hkp : h.GK fk = true) : ∀ ps : List (Nat × V), CJ ((Ay P h fk n base lk).BG s kk) G ps = some (ps, G)
 | [] => rfl
 | (i, v) :: r => by
  have e : Fq ((Ay P h fk n base lk).BG s kk) G v = some (v, G) := by
   unfold Fq
   rw [show ((Ay P h fk n base lk).BG s kk).hints.GK ((Ay P h fk n base lk).BG s kk).fn = true from hkp]
   rfl
  simp only [CJ, e, Option.bind_some, M6 hkp r, Option.map_some]
theorem dX {t e : TypeId} {m : Nat} {parts : Array (Nat × Operand)} {ps : List (Nat × V)} {z : List V} (lm : Nat) (ys : List α) (he : Au P t = some e) (hz : B3 P e = some (AL.sz α)) (hz0 : BD P e = some z) (k : BN (Ay P h fk n base lk) ops l ⟨Cc T d (.tl ys.length (A8 lm ys)), G⟩ Q)
  (hzl : z.length = AL.sz α := by rfl) (hm : Nat.ble (m * AL.sz α) 1048576 = true := by rfl) (hlen : m = ys.length := by rfl) (hkp : h.GK fk = true := by rfl) (h1 : QG T parts.toList = some ps := by rfl) (h2 : Dt (fun i => some (i * AL.sz α, AL.sz α)) (List.replicate m z).flatten ps = some (A8 lm ys) := by rfl) (hd : Nat.blt d n = true := by rfl) :
  BN (Ay P h fk n base lk) ops ((s, kk, ⟨some d, .buildSlice t m parts, ty, pos, aft, none⟩) :: l) ⟨T, G⟩ Q := by
 refine pV ?_ hd k
 unfold Gr CS
 simp only []
 rw [h1]
 simp only [Option.bind_some, M6 hkp]
 show (Au P t).bind _ = _
 rw [he]
 show (B3 P e).bind _ = _
 rw [hz]
 show (BD P e).bind _ = _
 rw [hz0]
 simp only [Option.bind_some]
 rw [if_pos ⟨hzl, Nat.pos_iff_ne_zero.1 AL.pos, Nat.le_of_ble_eq_true hm⟩, h2, hlen]
 rfl
theorem e8 {lm : Nat} {xs : List α} {i : Int} {x : α} {t e : TypeId} {y z : Operand} {kd : IntKind} (hc : AK xs i = some x) (he : Au P t = some e) (hz : B3 P e = some (AL.sz α)) (k : BN (Ay P h fk n base lk) ops l ⟨Cc T d (.lp 0 (A8 lm xs) (i.toNat * AL.sz α)), G⟩ Q)
  (h1 : ev T y = some (.tl xs.length (A8 lm xs)) := by rfl) (h2 : ev T z = some (.int kd i) := by rfl) (hd : Nat.blt d n = true := by rfl) :
  BN (Ay P h fk n base lk) ops ((s, kk, ⟨some d, .indexAddr t y z, ty, pos, aft, none⟩) :: l) ⟨T, G⟩ Q := by
 refine pV ?_ hd k
 rw [Cz]
 show (Au P t).bind _ = _
 rw [he, Option.bind_some]
 show (B3 P e).bind _ = _
 simp only [hz, h1, h2, Option.bind_some, asInt, P8, CY]
 rw [if_pos (Dx hc)]
 rfl
end
end Go.Proofs.YtphpkphklegfeaaGreat.K
